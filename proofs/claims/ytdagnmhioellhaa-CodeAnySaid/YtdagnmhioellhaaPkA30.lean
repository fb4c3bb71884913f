/- Whether two lists of texts are one: siloref0.EqStrings, slices.Equal; code.Verify. -/
import Derived.Test.YtdagnmhioellhaaPkA27
import Derived.OrdersHeld
import Derived.Deep.RegionHeld
import Derived.Deep.RegionHeld3
import Derived.Deep.CutBlock
import Derived.Test.YtdagnmhioellhaaPkA20
namespace Go.Proofs.Ytdagnmhioellhaa
open Go.ChangeShapes Go.WideShapes Go.ChangeAt Go.RowKit Go.Joins
set_option linter.unusedVariables false
set_option linter.unusedSimpArgs false

set_option maxRecDepth 100000 in
set_option maxHeartbeats 2000000 in
theorem eqStrs6_dec (va vb : Value) (a b : List ByteArray) (w : World) (ha : Strs6 w va a) (hb : Strs6 w vb b) (hm : a.length ≤ 9000000000000000000) (hm' : b.length ≤ 9000000000000000000) :
    Calls Try.prog 22 #[va, vb] w fun e w' => e = .returned (.bool (decide (a = b))) ∧ Below w.heap.size w w' := by
  have HA := Lib.hid ha
  have HB := Lib.hid hb
  obtain ⟨Aa, ka, rfl⟩ := ha.shape
  obtain ⟨Ab, kb, rfl⟩ := hb.shape
  clear ha hb
  by_cases hlen : b.length = a.length
  · rw [hlen]
    have HL := Lib.hid hlen
    clear hlen hm'
    have hd : ((a.length : Int) == (a.length : Int)) = true := by simp
    go_enter Try.func22, Try.ntmps22
    go_wp2_with fail
    go_loopw [5] (fun i wr => ∃ k : Nat, i = .int .i64 k ∧ k ≤ a.length ∧ Hid (a.take k = b.take k) ∧ Below w.heap.size w wr) (fun i _ => a.length - (intOf i).toNat)
    case atStart => exact ⟨0, rfl, by omega, rfl, Below.refl _ _⟩
    case round =>
      obtain ⟨k, rfl, hk, HK, hwr⟩ := hrel
      by_cases hlt : k < a.length
      · have hltb : k < b.length := by rw [HL.out]; exact hlt
        obtain ⟨ba, oa, rfl, _, a0⟩ := (HA.out.below hwr).at_ hlt
        obtain ⟨bb, ob, rfl, _, b0⟩ := (HB.out.below hwr).at_ hltb
        have HT : Hid (a[k]'hlt = b[k]'hltb → a.take (k + 1) = b.take (k + 1)) := fun h => by
          rw [List.take_succ_eq_append_getElem hlt, List.take_succ_eq_append_getElem hltb, HK.out, h]
        have HN : Hid (a[k]'hlt ≠ b[k]'hltb → decide (a = b) = false) := fun h => by
          refine decide_eq_false (fun e => h ?_)
          subst e
          rfl
        have j0 : (0 : Int) ≤ (k : Int) := by omega
        have j1 : (k : Int) < (a.length : Int) := by omega
        generalize a[k]'hlt = s at *
        generalize b[k]'hltb = t at *
        clear hltb
        by_cases hst : s = t
        · have HT1 := Lib.hid (HT.out hst)
          subst hst
          go_wp2_with fail
          go_quiet (fail)
          all_goals
            go_wp2_with fail
            go_roundw
            case rel => exact ⟨k + 1, by go_num, by omega, HT1, below_drewN hwr _⟩
            case measure => simp [intOf]; omega
        · have HF := Lib.hid (HN.out hst)
          have hs1 : (s.toList == t.toList) = false := by rw [beq_eq_false_iff_ne, ByteArray.toList_eq, ByteArray.toList_eq]; exact fun e => hst (ByteArray.ext (Array.toList_inj.1 e))
          clear HT HN
          go_wp2_with fail
          go_quiet (fail)
          all_goals go_wp2_with fail
          all_goals
            go_ret
            exact ⟨by rw [HF.out]; first | rfl | simp_all, below_drewN hwr _⟩
      · have hke : k = a.length := by omega
        have HF : Hid (decide (a = b) = true) := by
          have h := HK.out
          rw [hke, List.take_length, ← HL.out, List.take_length] at h
          exact decide_eq_true h
        clear hke
        go_wp2_with fail
        go_ret
        exact ⟨by rw [HF.out]; first | rfl | simp_all, hwr⟩
  · have hd : ((a.length : Int) == (b.length : Int)) = false := by simp; omega
    have HF : Hid (decide (a = b) = false) := decide_eq_false (fun e => hlen (by rw [e]))
    clear hlen
    go_enter Try.func22, Try.ntmps22
    go_wp2_with fail
    go_ret
    exact ⟨by rw [HF.out]; first | rfl | simp_all, Below.refl _ _⟩

set_option maxRecDepth 100000 in
set_option maxHeartbeats 2000000 in
theorem eqSl_dec (va vb : Value) (a b : List ByteArray) (w : World) (ha : Strs6 w va a) (hb : Strs6 w vb b) (hm : a.length ≤ 9000000000000000000) (hm' : b.length ≤ 9000000000000000000) :
    Calls Try.prog 49 #[va, vb] w fun e w' => e = .returned (.bool (decide (a = b))) ∧ Below w.heap.size w w' := by
  have HA := Lib.hid ha
  have HB := Lib.hid hb
  obtain ⟨Aa, ka, rfl⟩ := ha.shape
  obtain ⟨Ab, kb, rfl⟩ := hb.shape
  clear ha hb
  by_cases hlen : b.length = a.length
  · rw [hlen]
    have HL := Lib.hid hlen
    clear hlen hm'
    have hd : ((a.length : Int) == (a.length : Int)) = true := by simp
    go_enter Try.func49, Try.ntmps49
    go_wp2_with fail
    go_loopw [13] (fun i wr => ∃ k : Nat, i = .int .i64 k ∧ k ≤ a.length ∧ Hid (a.take k = b.take k) ∧ Below w.heap.size w wr) (fun i _ => a.length - (intOf i).toNat)
    case atStart => exact ⟨0, rfl, by omega, rfl, Below.refl _ _⟩
    case round =>
      obtain ⟨k, rfl, hk, HK, hwr⟩ := hrel
      by_cases hlt : k < a.length
      · have hltb : k < b.length := by rw [HL.out]; exact hlt
        obtain ⟨ba, oa, rfl, _, a0⟩ := (HA.out.below hwr).at_ hlt
        obtain ⟨bb, ob, rfl, _, b0⟩ := (HB.out.below hwr).at_ hltb
        have HT : Hid (a[k]'hlt = b[k]'hltb → a.take (k + 1) = b.take (k + 1)) := fun h => by
          rw [List.take_succ_eq_append_getElem hlt, List.take_succ_eq_append_getElem hltb, HK.out, h]
        have HN : Hid (a[k]'hlt ≠ b[k]'hltb → decide (a = b) = false) := fun h => by
          refine decide_eq_false (fun e => h ?_)
          subst e
          rfl
        have j0 : (0 : Int) ≤ (k : Int) := by omega
        have j1 : (k : Int) < (a.length : Int) := by omega
        generalize a[k]'hlt = s at *
        generalize b[k]'hltb = t at *
        clear hltb
        by_cases hst : s = t
        · have HT1 := Lib.hid (HT.out hst)
          subst hst
          go_wp2_with fail
          go_quiet (fail)
          all_goals
            go_wp2_with fail
            go_roundw
            case rel => exact ⟨k + 1, by go_num, by omega, HT1, below_drewN hwr _⟩
            case measure => simp [intOf]; omega
        · have HF := Lib.hid (HN.out hst)
          have hs1 : (s.toList == t.toList) = false := by rw [beq_eq_false_iff_ne, ByteArray.toList_eq, ByteArray.toList_eq]; exact fun e => hst (ByteArray.ext (Array.toList_inj.1 e))
          clear HT HN
          go_wp2_with fail
          go_quiet (fail)
          all_goals go_wp2_with fail
          all_goals
            go_ret
            exact ⟨by rw [HF.out]; first | rfl | simp_all, below_drewN hwr _⟩
      · have hke : k = a.length := by omega
        have HF : Hid (decide (a = b) = true) := by
          have h := HK.out
          rw [hke, List.take_length, ← HL.out, List.take_length] at h
          exact decide_eq_true h
        clear hke
        go_wp2_with fail
        go_ret
        exact ⟨by rw [HF.out]; first | rfl | simp_all, hwr⟩
  · have hd : ((a.length : Int) == (b.length : Int)) = false := by simp; omega
    have HF : Hid (decide (a = b) = false) := decide_eq_false (fun e => hlen (by rw [e]))
    clear hlen
    go_enter Try.func49, Try.ntmps49
    go_wp2_with fail
    go_ret
    exact ⟨by rw [HF.out]; first | rfl | simp_all, Below.refl _ _⟩
end Go.Proofs.Ytdagnmhioellhaa

/- code.Verify, walked. -/

namespace Go.Proofs.Ytdagnmhioellhaa
open Go.ChangeShapes Go.WideShapes Go.ChangeAt Go.RowKit Go.Joins
set_option linter.unusedVariables false
set_option linter.unusedSimpArgs false

/-- Whether texts are pieces. -/
def verB (b : Bool) (k m z : Int) (L : List ByteArray) : Bool := b && decide (encL k m z (L.take k.toNat) = L)

/-- Room for a slice of it. -/
def RoomS (v : Value) (L : List ByteArray) : Prop := ∃ A c, v = .slice A L.length c ∧ L.length ≤ c ∧ c ≤ 9223372036854775807

set_option maxRecDepth 100000 in
set_option maxHeartbeats 4000000 in
theorem verify_all (k m z : Int) (v : Value) (L : List ByteArray) (b : Bool) (hb : (mayB (k, m, z) && fitB L (k + m) z) = b) (w : World) (hN : Strs6 w v L) (hl : L.length ≤ 9000000000000000000) (hroom : b = true → RoomS v L) :
    Calls Try.prog 29 #[.agg #[.int .i64 k, .int .i64 m, .int .i64 z], v] w fun e w' => e = .returned (.tuple #[.bool (verB b k m z L), .int .i64 (mulE b)]) ∧ Below w.heap.size w w' := by
  obtain ⟨A, cap, rfl⟩ := hN.shape
  obtain ⟨o, ho⟩ : ∃ o, o = (Obj.cells #[.int .i64 k, .int .i64 m, .int .i64 z] 29) := ⟨_, rfl⟩
  have tA := Three.new w (.int .i64 k) (.int .i64 m) (.int .i64 z) 29
  have hbe := (Below.refl w.heap.size w).alloc (Nat.le_refl _) (.cells #[.int .i64 k, .int .i64 m, .int .i64 z] 29)
  rw [← ho] at tA hbe
  have HB := Lib.hid hbe
  have HT := Lib.hid tA
  have HS := Lib.hid (hN.below hbe)
  have HR := Lib.hid hb
  have HRM := Lib.hid hroom
  obtain ⟨q, hq⟩ : ∃ q, IntKind.i64.wrap (k + m) = q := ⟨_, rfl⟩
  have HMF : Hid ((mayB (k, m, z) && fitB L q z) = b) := by
    cases hmb : mayB (k, m, z)
    · rw [hmb] at hb
      exact hb
    · obtain ⟨K, M, rfl, rfl, k1, k8, m6, z1, z2⟩ := mayB_yes hmb
      rw [hmb] at hb
      rw [IntWalk.i64_in _ (by omega)] at hq
      rw [Hid, ← hq]
      exact hb
  obtain ⟨a0, a1, a2, _, _, _⟩ := tA
  rw [ho] at a0 a1 a2
  clear hbe hN hb hroom
  go_enter Try.func29, Try.ntmps29
  go_wp2_with fail
  rw [← ho]
  refine (texts4_any k m z q _ L b HMF.out _ HS.out hl).mono ?_
  rintro e w1 ⟨rfl, hb1⟩
  have HB1 := Lib.hid (HB.out.trans (hb1.mono HB.out.size))
  have HS1 := Lib.hid (HS.out.below hb1)
  have HT1 := Lib.hid (HT.out.below hb1)
  obtain ⟨wq, rfl⟩ : ∃ wq : World, wq = w1 := ⟨_, rfl⟩
  clear hb1 ho HB HS HT a0 a1 a2 HMF hq
  cases b
  · obtain ⟨a0, a1, a2, _, _, _⟩ := HT1.out
    go_wp2_with fail
    go_ret2
    exact ⟨rfl, HB1.out⟩
  · have hr := HR.out
    rw [Bool.and_eq_true] at hr
    obtain ⟨K, M, rfl, rfl, k1, k8, m6, z1, z2⟩ := mayB_yes hr.1
    obtain ⟨h1, h2⟩ := fitB_all hr.2
    obtain ⟨n, hn⟩ : ∃ n, n = K + M := ⟨_, rfl⟩
    have hn14 : n ≤ 14 := by omega
    have hn1 : 1 ≤ n := by omega
    have hKn : K ≤ L.length := by omega
    obtain ⟨_, _, e0, hr1, hr2⟩ := HRM.out rfl
    cases e0
    have hLn : L.length ≤ 14 := by omega
    have q0 : (0 : Int) ≤ (K : Int) := by omega
    have q1 : (K : Int) ≤ (cap : Int) := by omega
    obtain ⟨nk, hnk⟩ : ∃ nk, nk = n * K := ⟨_, rfl⟩
    have hle : nk ≤ 14 * 8 := by rw [hnk]; exact Nat.mul_le_mul hn14 k8
    have HNK := Lib.hid hnk
    have HNN := Lib.hid hn
    have HGN := Lib.hid (genL_len n K)
    have HGL : Hid ((genL n K).length = nk) := by rw [Hid, genL_len, hnk]
    have HTK := Lib.hid (Strs6.take (c' := cap) HS1.out hKn)
    have HTL : Hid ((L.take K).length = K) := by rw [Hid, List.length_take]; omega
    have HTZ : Hid (∀ s ∈ L.take K, s.size = z.toNat) := fun s hs => by have := h2 s (List.mem_of_mem_take hs); omega
    have HEN : Hid (encL (K : Int) (M : Int) z (L.take K) = applyL (genL n K) (L.take K) n K z.toNat) := by rw [Hid, encL_nat, hn]
    have hKM : ((K : Int) + (M : Int)).toNat ≤ 14 := by omega
    clear hr h1 h2 hnk hn
    go_upto_region 3 with fail
    refine wp_region_held (S := fun W' => Below wq.heap.size wq W') (by kernel_rfl) ?_
    change wpAnyH _ _ _ _ _ 11 _ _ wq.drew
    have hcum := (Below.refl wq.heap.size wq).drew
    generalize wq.drew = V0 at *
    refine wpAnyH_take (i := 0) (oi := { dst := some 15, op := Op.load 29 (Operand.tmp 2), type := 29, pos := "code.go:97", after := #[], guard := none }) (v := ?_) rfl (by kernel_rfl) (by kernel_rfl) (by kernel_rfl) (fun _ _ _ h => h) (Or.inl ⟨by rfl, fun W' hW' => ?_⟩) hcum ?_
    rotate_left 1
    · (obtain ⟨x0, x1, x2, _, _, _⟩ := HT1.out.below hW'; go_simp)
      try rfl
    try simp only [Act.put, List.setIfInBounds_toArray, List.set_cons_zero, List.set_cons_succ]
    refine wpAnyH_take (i := 2) (oi := { dst := some 17, op := Op.move (Operand.tmp 1), type := 23, pos := "code.go:97", after := #[], guard := none }) (v := ?_) rfl (by kernel_rfl) (by kernel_rfl) (by kernel_rfl) (fun _ _ _ h => h) (Or.inl ⟨by rfl, fun W' hW' => ?_⟩) hcum ?_
    rotate_left 1
    · go_simp
      try rfl
    try simp only [Act.put, List.setIfInBounds_toArray, List.set_cons_zero, List.set_cons_succ]
    refine wpAnyH_take (i := 3) (oi := { dst := some 18, op := Op.fieldAddr 29 (Operand.tmp 2) 0, type := 0, pos := "code.go:97", after := #[], guard := none }) (v := ?_) rfl (by kernel_rfl) (by kernel_rfl) (by kernel_rfl) (fun _ _ _ h => h) (Or.inl ⟨by rfl, fun W' hW' => ?_⟩) hcum ?_
    rotate_left 1
    · go_simp
      try rfl
    try simp only [Act.put, List.setIfInBounds_toArray, List.set_cons_zero, List.set_cons_succ]
    refine wpAnyH_take (i := 4) (oi := { dst := some 19, op := Op.load 3 (Operand.tmp 18), type := 3, pos := "code.go:97", after := #[{ on := 3, ground := Ground.data }], guard := none }) (v := ?_) rfl (by kernel_rfl) (by kernel_rfl) (by kernel_rfl) (fun _ _ _ h => h) (Or.inl ⟨by rfl, fun W' hW' => ?_⟩) hcum ?_
    rotate_left 1
    · (obtain ⟨x0, x1, x2, _, _, _⟩ := HT1.out.below hW'; go_simp)
      try rfl
    try simp only [Act.put, List.setIfInBounds_toArray, List.set_cons_zero, List.set_cons_succ]
    refine wpAnyH_take (i := 5) (oi := { dst := some 20, op := Op.slice 23 (Operand.tmp 17) none (some (Operand.tmp 19)) none, type := 23, pos := "code.go:97", after := #[{ on := 2, ground := Ground.data }, { on := 4, ground := Ground.data }], guard := none }) (v := ?_) rfl (by kernel_rfl) (by kernel_rfl) (by kernel_rfl) (fun _ _ _ h => h) (Or.inl ⟨by rfl, fun W' hW' => ?_⟩) hcum ?_
    rotate_left 1
    · go_simp
      try rfl
    try simp only [Act.put, List.setIfInBounds_toArray, List.set_cons_zero, List.set_cons_succ]
    refine wpAnyH_take (i := 7) (oi := { dst := some 22, op := Op.move (Operand.tmp 1), type := 23, pos := "code.go:97", after := #[], guard := none }) (v := ?_) rfl (by kernel_rfl) (by kernel_rfl) (by kernel_rfl) (fun _ _ _ h => h) (Or.inl ⟨by rfl, fun W' hW' => ?_⟩) hcum ?_
    rotate_left 1
    · go_simp
      try rfl
    try simp only [Act.put, List.setIfInBounds_toArray, List.set_cons_zero, List.set_cons_succ]
    refine wpAnyH_ready (rs := [1]) (by kernel_rfl) (by simp) ?_
    refine AllReadyH.cons (o := { dst := some 16, op := Op.call { callee := Callee.value (Operand.func 37), args := #[Operand.tmp 15], argTypes := #[29] }, type := 33, pos := "code.go:97", after := #[{ on := 0, ground := Ground.data }], guard := none }) rfl (fun KK hK => ?_) AllReadyH.nil
    rw [if_pos (by rfl)]
    go_simp
    refine (gen_any K M z V0 k1 k8 m6).mono ?_
    rintro e V1 ⟨vr, rfl, hmr, hbe⟩
    obtain ⟨B4, h41, h42, rfl, hbk4, hl4⟩ := hmr
    rw [← HNN.out] at hbk4
    rw [← HNN.out, ← HNK.out]
    unfold matV
    have hcum := hcum.trans (hbe.mono hcum.size)
    refine hK.out _ _ hcum (fun _ => ?_)
    clear hK hbe
    try simp only [Act.put, List.setIfInBounds_toArray, List.set_cons_zero, List.set_cons_succ]
    refine wpAnyH_ready (rs := [6]) (by kernel_rfl) (by simp) ?_
    refine AllReadyH.cons (o := { dst := some 21, op := Op.call { callee := Callee.value (Operand.func 44), args := #[Operand.tmp 16, Operand.tmp 20], argTypes := #[33, 23] }, type := 23, pos := "code.go:97", after := #[{ on := 1, ground := Ground.data }, { on := 5, ground := Ground.data }, { on := 1, ground := Ground.chain }], guard := none }) rfl (fun KK hK => ?_) AllReadyH.nil
    rw [if_pos (by rfl)]
    go_simp
    have hbv := BytesV.of_blk (c := nk) hbk4 h42
    rw [HGL.out] at hbv
    have HC := lanes_any n K z.toNat B4 0 nk nk (.slice A K cap) (genL n K) (L.take K) V1 hbv (HTK.out.below hcum) HGN.out HTL.out HTZ.out (by omega) (by omega) (by omega) k1 (by omega) (Nat.le_refl _) (by omega)
    unfold matV at HC
    with_reducible refine HC.mono ?_
    rintro e V2 ⟨r, rfl, hown, hbe⟩
    obtain ⟨Ar, cr, rfl⟩ := own_shape hown
    clear HC
    have hcum := hcum.trans (hbe.mono hcum.size)
    refine hK.out _ _ hcum (fun _ => ?_)
    clear hK hbe
    try simp only [Act.put, List.setIfInBounds_toArray, List.set_cons_zero, List.set_cons_succ]
    refine wpAnyH_ready (rs := [8]) (by kernel_rfl) (by simp) ?_
    refine AllReadyH.cons (o := { dst := some 23, op := Op.call { callee := Callee.value (Operand.func 49), args := #[Operand.tmp 21, Operand.tmp 22], argTypes := #[23, 23] }, type := 4, pos := "code.go:97", after := #[{ on := 6, ground := Ground.data }, { on := 7, ground := Ground.data }, { on := 6, ground := Ground.chain }], guard := none }) rfl (fun KK hK => ?_) AllReadyH.nil
    rw [if_pos (by rfl)]
    go_simp
    have hsr : Strs6 V2 (.slice Ar n cr) (encL (K : Int) (M : Int) z (L.take K)) := by
      have h := RowIs.of_own hown
      show RowIs _ _ (encL _ _ _ _).length 1 _
      rw [HEN.out, applyL_length]
      exact h
    refine (eqSl_dec _ (.slice A L.length cap) (encL (K : Int) (M : Int) z (L.take K)) L V2 hsr (HS1.out.below hcum) (by rw [encL_len]; omega) (by omega)).mono ?_
    rintro e V3 ⟨rfl, hbe⟩
    have hcum := hcum.trans (hbe.mono hcum.size)
    refine hK.out _ _ hcum (fun _ => ?_)
    clear hK hbe
    try simp only [Act.put, List.setIfInBounds_toArray, List.set_cons_zero, List.set_cons_succ]
    refine wpAnyH_take (i := 9) (oi := { dst := some 4, op := Op.assign (Operand.tmp 23), type := 4, pos := "code.go:97", after := #[{ on := 8, ground := Ground.data }, { on := 8, ground := Ground.chain }, { on := 0, ground := Ground.phase }, { on := 1, ground := Ground.phase }, { on := 2, ground := Ground.phase }, { on := 3, ground := Ground.phase }, { on := 4, ground := Ground.phase }, { on := 5, ground := Ground.phase }, { on := 6, ground := Ground.phase }, { on := 7, ground := Ground.phase }, { on := 8, ground := Ground.phase }], guard := none }) (v := ?_) rfl (by kernel_rfl) (by kernel_rfl) (by kernel_rfl) (fun _ _ _ h => h) (Or.inl ⟨by rfl, fun W' hW' => ?_⟩) hcum ?_
    rotate_left 1
    · go_simp
      try rfl
    try simp only [Act.put, List.setIfInBounds_toArray, List.set_cons_zero, List.set_cons_succ]
    refine wpAnyH_take (i := 10) (oi := { dst := some 5, op := Op.assign (Operand.const (Value.int IntKind.i64 0)), type := 34, pos := "code.go:97", after := #[{ on := 9, ground := Ground.chain }, { on := 0, ground := Ground.phase }, { on := 1, ground := Ground.phase }, { on := 2, ground := Ground.phase }, { on := 3, ground := Ground.phase }, { on := 4, ground := Ground.phase }, { on := 5, ground := Ground.phase }, { on := 6, ground := Ground.phase }, { on := 7, ground := Ground.phase }, { on := 8, ground := Ground.phase }, { on := 9, ground := Ground.phase }], guard := none }) (v := ?_) rfl (by kernel_rfl) (by kernel_rfl) (by kernel_rfl) (fun _ _ _ h => h) (Or.inl ⟨by rfl, fun W' hW' => ?_⟩) hcum ?_
    rotate_left 1
    · go_simp
      try rfl
    try simp only [Act.put, List.setIfInBounds_toArray, List.set_cons_zero, List.set_cons_succ]
    refine wpAnyH_done (by kernel_rfl) ?_ _
    have hfin := HB1.out.trans (hcum.mono HB1.out.size)
    clear hcum
    go_wp2_with fail
    go_ret2
    exact ⟨rfl, hfin⟩
end Go.Proofs.Ytdagnmhioellhaa

/- Rows of bools and texts that are written in place; CopyBools. -/

namespace Go.Proofs.Ytdagnmhioellhaa
open Go.ChangeShapes Go.WideShapes Go.ChangeAt Go.RowKit Go.Joins
set_option linter.unusedVariables false
set_option linter.unusedSimpArgs false

theorem boolsIn_own {w : World} {B : Nat} {e : TypeId} {v : Value} {T : List Bool} (h : w.ownsRow B e 1 v T.length (T.map Value.bool)) (hl : T.length ≤ 9223372036854775807) : BoolsIn w v T := by
  obtain ⟨hlen, A, c, rfl, hr⟩ := RowIs.of_own h
  refine ⟨A, c, rfl, hl, fun i hi => ?_⟩
  obtain ⟨b, o, rfl, hbl, hcell⟩ := hr (by omega)
  refine ⟨b, o, rfl, hbl, hcell i _ ?_⟩
  simp [List.getD, hi]
theorem roomS_own {w : World} {B : Nat} {e : TypeId} {v : Value} {L : List ByteArray} {xs : List Value} (h : w.ownsRow B e 1 v L.length xs) : RoomS v L := by
  rcases h.2 with ⟨rfl, h0⟩ | ⟨g, cap, cur, rfl, hb, hg, h1, h2, _⟩
  · exact ⟨none, 0, by rw [h0], by omega, by omega⟩
  · exact ⟨_, cap, rfl, h1, h2⟩
theorem infoBool : (Try.prog.info? 4).map (fun i => (i.zero, i.size, i.bytes)) = some (some (.bool false), 1, 1) := by kernel_rfl
theorem hmkT {n : Nat} (hn : n ≤ 100000) : ∀ w, (Instr.makeSlice 24 (.int .i64 (n : Int)) (.int .i64 (n : Int))).run Try.prog w = .ok (.slice (some ⟨w.heap.size, 0, none⟩) n n) (w.alloc (.cells (Array.replicate n (.bool false)) 4)) := by
  intro w
  obtain ⟨i, h1, h2, h3, h4⟩ := info_parts infoBool
  have hr := run_make (P := Try.prog) w 24 4 i _ Try.underlying24 h1 h2 .i64 .i64 (n : Int) (n : Int) (by omega) (by omega) (by rw [h4]; omega) (by omega)
  rw [hr]
  have e : madeCells (Value.bool false).cells ((n : Int).toNat * i.size) = Array.replicate n (.bool false) := by
    rw [h3, Int.toNat_natCast, Nat.mul_one]
    apply Array.ext
    · simp [madeCells]
    · intro j h1 h2
      simp [madeCells, Value.cells, Nat.mod_one]
  rw [e, Int.toNat_natCast]
theorem ListsIn.at2 {w : World} {A : Option Addr} {c : Nat} {LL : List (Value × List ByteArray)} (h : ListsIn w (.slice A LL.length c) LL) {k : Nat} (hk : k < LL.length) :
    ∃ b o v l, (v, l) ∈ LL ∧ A = some ⟨b, o, none⟩ ∧ w.cell? ⟨b, o + k, none⟩ = some v ∧ Strs6 w v l ∧ l.length ≤ 6000 := by
  obtain ⟨b, o, c', e, hlt, hc⟩ := RowIs.at_ h.1 hk
  cases e
  obtain ⟨u, h1, h2⟩ := hc 0 (by omega)
  simp [hk] at h1
  rw [Nat.mul_one, Nat.add_zero] at h2
  have hm := h.2 (LL[k]'hk) (List.getElem_mem hk)
  exact ⟨b, o, (LL[k]'hk).1, (LL[k]'hk).2, List.getElem_mem hk, rfl, by rw [h2, ← h1], hm.1, hm.2⟩

set_option maxRecDepth 100000 in
set_option maxHeartbeats 1000000 in
theorem copyBools_any (v : Value) (T : List Bool) (w : World) (h : BoolsIn w v T) (hl : T.length ≤ 6000) :
    Calls Try.prog 31 #[v] w fun e w' => ∃ r, e = .returned r ∧ w'.ownsRow w.heap.size 4 1 r T.length (T.map Value.bool) ∧ Below w.heap.size w w' := by
  obtain ⟨i0, hi, hz0, hz1, hz2⟩ := info_parts infoBool
  obtain ⟨p, cap, rfl, hS⟩ := h
  have HS := Lib.hid hS
  clear hS
  go_enter Try.func31, Try.ntmps31
  go_wp2_with fail
  go_loopw [3, 4] (fun l i wr => ∃ k : Nat, i = .int .i64 k ∧ k ≤ T.length ∧ wr.ownsRow w.heap.size 4 1 l k ((T.take k).map Value.bool) ∧ Below w.heap.size w wr) (fun _ i _ => T.length - (intOf i).toNat)
  case atStart => exact ⟨0, rfl, by omega, World.ownsRow_nil _ _ _ _, Below.refl _ _⟩
  case round =>
    obtain ⟨k, rfl, hk, hown, hwr⟩ := hrel
    by_cases hlt : k < T.length
    · obtain ⟨b, off, rfl, hbl, hcell⟩ := (HS.out.below hwr).2 k hlt
      dsimp only at hcell
      have HT : Hid (T.take (k + 1) = T.take k ++ [T.getD k false]) := by rw [Hid, List.take_succ_eq_append_getElem hlt, List.getElem_eq_getD (fallback := false)]
      generalize T.getD k false = s at *
      have j0 : (0 : Int) ≤ (k : Int) := by omega
      have j1 : (k : Int) < (T.length : Int) := by omega
      go_wp2_with (first | (at_builtin; refine wpList_append_own _ rfl _ _ 24 rfl w.heap.size 4 i0 (.bool false) 1 1 Try.underlying24 hi hz0 hz1 hz2 rfl (by decide) _ _ _ rfl (hown.alloc _) ⟨wr.heap.size, 0, none⟩ 1 1 [.bool s] rfl rfl ?c1 ?c2 ?c3 ?c4 ?c5 ?_) | go_in)
      case c1 => exact cell_one_new' _ _ _
      case c2 => intro u hu; simp at hu; subst hu; rfl
      case c3 => unfold maxLen; omega
      case c4 => omega
      case c5 => have := hwr.size; simp; omega
      all_goals
        intro v' w1 hown' hgrow _
        have hbx := append_below hwr hown hgrow
        clear hown hgrow hwr hcell
        go_wp2_with fail
        go_roundw
        case rel => exact ⟨k + 1, by go_num, by omega, by rw [HT.out, List.map_append, List.map_take]; exact hown', hbx⟩
        case measure => simp [intOf]; omega
    · have hke : k = T.length := by omega
      rw [hke, List.take_length] at hown
      clear hke
      go_wp2_with fail
      all_goals
        go_ret
        exact ⟨_, rfl, hown, hwr⟩
end Go.Proofs.Ytdagnmhioellhaa
