/- LaneOrders, walked. -/
import Derived.Test.YtdbdpdeehfeaiaaLaneM
namespace Go.Proofs.Ytdbdpdeehfeaiaa
open Go.ChangeShapes Go.WideShapes Go.ChangeAt Go.RowKit Go.Joins
set_option linter.unusedVariables false
set_option linter.unusedSimpArgs false

theorem cum2 {W a b : World} (h : Below W.heap.size W a) (hb : Below a.heap.size a b) : Below W.heap.size W b := h.trans (hb.mono h.size)
theorem four_sum (a z b d : ByteArray) (n : Nat) (ha : a.size = n) (hz : z.size = n) (hb : b.size = n) (hd : d.size = n) : sumS [a, z, b, d] = addedS (addedS (addedS a z) b) d := by
  have hL : ∀ s ∈ [a, z, b, d], s.size = n := by intro s hs; simp at hs; rcases hs with rfl | rfl | rfl | rfl <;> assumption
  rw [sumS_want [a, z, b, d] (n := n) ha]
  show wantK [a, z, b, d] n (3 + 1) = _
  rw [wantK_succ hL (by simp)]
  show addedS (wantK [a, z, b, d] n (2 + 1)) _ = _
  rw [wantK_succ hL (by simp)]
  show addedS (addedS (wantK [a, z, b, d] n (1 + 1)) _) _ = _
  rw [wantK_succ hL (by simp), wantK_one hL (by simp)]
  rfl
theorem five_sum (a z b d e : ByteArray) (n : Nat) (ha : a.size = n) (hz : z.size = n) (hb : b.size = n) (hd : d.size = n) (he : e.size = n) : sumS [a, z, b, d, e] = addedS (addedS (addedS (addedS a z) b) d) e := by
  have hL : ∀ s ∈ [a, z, b, d, e], s.size = n := by intro s hs; simp at hs; rcases hs with rfl | rfl | rfl | rfl | rfl <;> assumption
  rw [sumS_want [a, z, b, d, e] (n := n) ha]
  show wantK [a, z, b, d, e] n (4 + 1) = _
  rw [wantK_succ hL (by simp)]
  show addedS (wantK [a, z, b, d, e] n (3 + 1)) _ = _
  rw [wantK_succ hL (by simp)]
  show addedS (addedS (wantK [a, z, b, d, e] n (2 + 1)) _) _ = _
  rw [wantK_succ hL (by simp)]
  show addedS (addedS (addedS (wantK [a, z, b, d, e] n (1 + 1)) _) _) _ = _
  rw [wantK_succ hL (by simp), wantK_one hL (by simp)]
  rfl
theorem order_four (a b : ByteArray) (n : Nat) (ha : a.size = n) (hb : b.size = n) : sumS [a, zeroS n, b, a] = b := by
  rw [four_sum _ _ _ _ n ha (zeroS_size n) hb ha]
  apply str_ext
  · rw [addedS_size, addedS_size, addedS_size]; omega
  · intro i hi
    rw [addedS_size, addedS_size, addedS_size] at hi
    rw [byN_added _ _ (by rw [addedS_size, addedS_size]; exact hi), byN_added _ _ (by rw [addedS_size]; exact hi), byN_added _ _ hi, byN_zero, Nat.xor_zero, Nat.xor_comm (byN a i) (byN b i), xor_back]
theorem order_five (a b : ByteArray) (n : Nat) (ha : a.size = n) (hb : b.size = n) : sumS [b, a, a, zeroS n, zeroS n] = b := by
  rw [five_sum _ _ _ _ _ n hb ha ha (zeroS_size n) (zeroS_size n)]
  apply str_ext
  · simp only [addedS_size]
  · intro i hi
    simp only [addedS_size] at hi
    rw [byN_added _ _ (by simp only [addedS_size]; exact hi), byN_added _ _ (by simp only [addedS_size]; exact hi), byN_added _ _ (by simp only [addedS_size]; exact hi), byN_added _ _ hi, byN_zero, Nat.xor_zero, Nat.xor_zero, xor_back]
theorem may_four (a b : ByteArray) (n : Nat) (ha : a.size = n) (hb : b.size = n) (h : n ≤ 8192) : mayN [a, zeroS n, b, a] = 0 := by
  have hz := zeroS_size n
  simp [mayN, mayGo, ha, hb, hz, show ¬ 8192 < n by omega]
theorem may_five (a b : ByteArray) (n : Nat) (ha : a.size = n) (hb : b.size = n) (h : n ≤ 8192) : mayN [b, a, a, zeroS n, zeroS n] = 0 := by
  have hz := zeroS_size n
  simp [mayN, mayGo, ha, hb, hz, show ¬ 8192 < n by omega]
set_option maxRecDepth 100000 in
set_option maxHeartbeats 400000 in
theorem within53_any (w : World) : Calls Try.prog 21 #[.int .i64 5, .int .i64 3] w fun e w' => e = .returned (.int .i64 2) ∧ w = w' := by
  have hd : IntKind.u64.wrap 3 ≠ 0 := by decide
  go_enter Try.func21, Try.ntmps21
  go_wp2_with fail
  go_ret
  exact ⟨rfl, rfl⟩

set_option maxRecDepth 100000 in
set_option maxHeartbeats 4000000 in
theorem laneOrders_walk (w : World) (vL : Value) (C N : Int) (L : List ByteArray) (hT : TextsIn w vL L) (hC : 0 ≤ C ∧ C ≤ 255) (hN : -9223372036854775808 ≤ N ∧ N ≤ 9223372036854775807) :
    Calls Try.prog 7 #[.agg #[vL, .int .u8 C, .int .i64 N]] w fun e w' => e = .returned (.bool true) ∧ Below w.heap.size w w' := by
  obtain ⟨c, rfl⟩ : ∃ c : Nat, C = (c : Int) := ⟨C.toNat, by omega⟩
  have hc : c < 256 := by omega
  have hT2 := hT.below (box3_facts2 w vL (.int .u8 (c : Int)) (.int .i64 N) 24).1
  obtain ⟨hbel, hc0, hc1, hc2, hsz⟩ := box3_facts2 w vL (.int .u8 (c : Int)) (.int .i64 N) 24
  have HTT := Lib.hid hT2
  obtain ⟨A, kL, rfl⟩ := hT.row.shape
  have HL := Lib.hid hT2.row
  clear hT hT2
  go_enter Try.func7, Try.ntmps7
  go_wp2_with fail
  refine (heavy2_any _ (c : Int) N L _ HTT.out).mono ?_
  rintro e w1 ⟨bo, hbo, rfl, hb1⟩
  have hHL1 := HL.out.below hb1
  have HTT1 := Lib.hid (HTT.out.below hb1)
  have hlt0 : w.heap.size < (w.alloc (.cells #[.slice A L.length kL, .int .u8 (c : Int), .int .i64 N] 24)).heap.size := by rw [hsz]; omega
  have d0 := below_celllt hc0 hlt0 hb1
  have d1 := below_celllt hc1 hlt0 hb1
  have d2 := below_celllt hc2 hlt0 hb1
  have hb2 := hbel.trans (hb1.mono hbel.size)
  have hlt1 : w.heap.size < w1.heap.size := Nat.lt_of_lt_of_le hlt0 hb1.size
  have HL1 := Lib.hid hHL1
  clear hb1 hc0 hc1 hc2 hsz hbel HL HTT hlt0 hHL1
  generalize hB0 : w.heap.size = B0 at d0 d1 d2 hlt1
  cases bo
  · have hT9 := hbo rfl
    have HM : Hid (∀ s ∈ L, s.size ≤ 9000) := fun s hs => Nat.le_trans (total_mem hs) hT9
    have hLl : L.length ≤ 9000 := by unfold total at hT9; omega
    clear hbo hT9
    clear HTT1 d2 d1
    by_cases h2 : L.length < 2
    · have h2d : decide ((L.length : Int) < 2) = true := by simp; omega
      go_wp2_with fail
      go_ret
      exact ⟨rfl, hb2⟩
    · have h2d : decide ((L.length : Int) < 2) = false := by simp; omega
      have hlA : 0 < L.length := by omega
      have hlB : 1 < L.length := by omega
      have i0 : (0 : Int) < (L.length : Int) := by omega
      have i1 : (1 : Int) < (L.length : Int) := by omega
      obtain ⟨b, o, rfl, hbl, hcell⟩ := HL1.out.at_ hlA
      obtain ⟨b', o', eA, _, hcell2⟩ := HL1.out.at_ hlB
      cases eA
      obtain ⟨s, hs⟩ : ∃ s, s = L[0]'hlA := ⟨_, rfl⟩
      obtain ⟨t, ht⟩ : ∃ t, t = L[1]'hlB := ⟨_, rfl⟩
      rw [← hs, Nat.add_zero] at hcell
      rw [← ht] at hcell2
      have hsz : s.size ≤ 9000 := by rw [hs]; exact HM.out _ (List.getElem_mem _)
      have htz : t.size ≤ 9000 := by rw [ht]; exact HM.out _ (List.getElem_mem _)
      have hmn : min (s.size : Int) (t.size : Int) = ((min s.size t.size : Nat) : Int) := by omega
      have hn1 : (s.extract 0 (min s.size t.size)).size = min s.size t.size := by rw [ByteArray.size_extract]; omega
      have hn2 : (t.extract 0 (min s.size t.size)).size = min s.size t.size := by rw [ByteArray.size_extract]; omega
      obtain ⟨n, hn⟩ : ∃ n, n = min s.size t.size := ⟨_, rfl⟩
      rw [← hn] at hmn hn1 hn2
      have hns : n ≤ s.size := by omega
      have hnt : n ≤ t.size := by omega
      have HD1 := Lib.hid (show ∀ W', Below w1.heap.size w1 W' → W'.cell? ⟨B0, 0, none⟩ = some (.slice (some ⟨b, o, none⟩) L.length kL) ∧ W'.cell? ⟨b, o, none⟩ = some (.string s) ∧ W'.cell? ⟨b, o + 1, none⟩ = some (.string t) from fun W' h => ⟨below_celllt d0 hlt1 h, below_celllt hcell hbl h, below_celllt hcell2 hbl h⟩)
      clear hs ht hn HM HL1
      go_wp2_with fail
      go_quiet (fail)
      all_goals
        have hcum := below_drewN (Below.refl w1.heap.size w1) nq
        generalize w1.drewN nq = W1 at *
        clear d0 hcell hcell2
        by_cases hn2k : n ≤ 2000
        · have hnd : decide ((2000 : Int) < (n : Int)) = false := by simp; omega
          go_wp2_with fail
          refine (zero_yes n _ (by omega)).mono ?_
          rintro e w' ⟨rfl, hb⟩
          have hcum := cum2 hcum hb
          have e0 := (HD1.out _ hcum).1
          have hcs := (HD1.out _ hcum).2.1
          have hct := (HD1.out _ hcum).2.2
          clear hb
          go_wp2_with fail
          go_quiet (fail)
          all_goals
            have hcum := below_drewN hcum nq
            generalize World.drewN w' nq = W2 at *
            clear e0 hcs hct
            have F4 := Lib.hid (may_four (s.extract 0 n) (t.extract 0 n) n hn1 hn2 (by omega))
            have F5 := Lib.hid (may_five (s.extract 0 n) (t.extract 0 n) n hn1 hn2 (by omega))
            have S4 := Lib.hid (order_four (s.extract 0 n) (t.extract 0 n) n hn1 hn2)
            have S5 := Lib.hid (order_five (s.extract 0 n) (t.extract 0 n) n hn1 hn2)
            go_wp2_with fail
            generalize s.extract 0 n = p at *
            generalize t.extract 0 n = q at *
            generalize zeroS n = z at *
            refine (sum_yes _ [p, z, q, p] _ (lit_row _ _ _ 4 1 _ rfl) (by simp) (by simp) F4.out).mono ?_
            rintro e w3 ⟨rfl, hb3⟩
            rw [S4.out]
            have hcum := (hcum.alloc hcum.size (.cells #[.string p, .string z, .string q, .string p] 9)).trans (hb3.mono (by simp; have := hcum.size; omega))
            clear hb3
            go_wp2_with fail
            refine (sum_yes _ [q, p, p, z, z] _ (lit_row _ _ _ 5 1 _ rfl) (by simp) (by simp) F5.out).mono ?_
            rintro e w4 ⟨rfl, hb4⟩
            rw [S5.out]
            have hcum := (hcum.alloc hcum.size (.cells #[.string q, .string p, .string p, .string z, .string z] 9)).trans (hb4.mono (by simp; have := hcum.size; omega))
            clear hb4
            go_wp2_with (first | (go_at_call 9; refine (num2_any _ _).mono ?_; rintro e w' ⟨rfl, rfl⟩) | (go_at_call 21; refine (within53_any _).mono ?_; rintro e w' ⟨rfl, rfl⟩))
            refine (wakes2_any _).mono ?_
            rintro e w5 ⟨rfl, hb4⟩
            have hx := hcum.trans (hb4.mono hcum.size)
            have hx2 := hb2.trans (hx.mono hb2.size)
            clear hb4
            go_wp2_with fail
            go_ret
            exact ⟨rfl, hx2⟩
        · have hnd : decide ((2000 : Int) < (n : Int)) = true := by simp; omega
          have hx2 := hb2.trans (hcum.mono hb2.size)
          go_wp2_with fail
          go_ret
          exact ⟨rfl, hx2⟩
  · go_wp2_with fail
    go_ret
    exact ⟨rfl, hb2⟩
end Go.Proofs.Ytdbdpdeehfeaiaa
