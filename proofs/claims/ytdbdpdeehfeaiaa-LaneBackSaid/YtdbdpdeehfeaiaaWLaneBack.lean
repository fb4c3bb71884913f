/- LaneBack, walked. -/
import Derived.Test.YtdbdpdeehfeaiaaLaneM
namespace Go.Proofs.Ytdbdpdeehfeaiaa
open Go.ChangeShapes Go.WideShapes Go.ChangeAt Go.RowKit Go.Joins
set_option linter.unusedVariables false
set_option linter.unusedSimpArgs false

theorem cum2 {W a b : World} (h : Below W.heap.size W a) (hb : Below a.heap.size a b) : Below W.heap.size W b := h.trans (hb.mono h.size)
theorem back_facts (p q : ByteArray) (c : Nat) (hp : p.size ≤ 2000) (hq : q.size = p.size) (hc : c < 256) : ∃ x u v : ByteArray,
    (∀ W, Calls Try.prog 13 #[.string p, .string q] W fun e w' => e = .returned (.tuple #[.string x, .int .i64 0]) ∧ Below W.heap.size W w') ∧
    (∀ W, Calls Try.prog 13 #[.string x, .string q] W fun e w' => e = .returned (.tuple #[.string p, .int .i64 0]) ∧ Below W.heap.size W w') ∧
    (∀ W, Calls Try.prog 8 #[.string x, .int .u8 (c : Int)] W fun e w' => e = .returned (.tuple #[.string u, .int .i64 0]) ∧ Below W.heap.size W w') ∧
    (∀ W, Calls Try.prog 8 #[.string p, .int .u8 (c : Int)] W fun e w' => e = .returned (.tuple #[.string v, .int .i64 0]) ∧ Below W.heap.size W w') ∧
    (∀ W, Calls Try.prog 14 #[.string v, .string q, .int .u8 (c : Int)] W fun e w' => e = .returned (.tuple #[.string u, .int .i64 0]) ∧ Below W.heap.size W w') := by
  have two : ∀ a b : ByteArray, a.size = p.size → b.size = p.size → mayN [a, b] = 0 := fun a b h1 h2 => by
    rw [two_eq, if_neg (by omega), if_neg (by omega), if_pos (by omega)]
  refine ⟨addedS p q, scaledS (addedS p q) c, scaledS p c, fun W => add_yes p q W (two _ _ rfl hq), fun W => ?_, fun W => scale_yes _ c W (by rw [addedS_size]; omega) hc, fun W => scale_yes _ c W (by omega) hc, fun W => ?_⟩
  · have h := add_yes (addedS p q) q W (two _ _ (addedS_size _ _) hq)
    rw [added_twice] at h
    exact h
  · have h := mulAdd_yes (scaledS p c) q c W (two _ _ (scaledS_size _ _) hq) hc
    rw [← scaled_added _ _ _ (by omega)] at h
    exact h

set_option maxRecDepth 100000 in
set_option maxHeartbeats 4000000 in
theorem laneBack_walk (w : World) (vL : Value) (C N : Int) (L : List ByteArray) (hT : TextsIn w vL L) (hC : 0 ≤ C ∧ C ≤ 255) (hN : -9223372036854775808 ≤ N ∧ N ≤ 9223372036854775807) :
    Calls Try.prog 5 #[.agg #[vL, .int .u8 C, .int .i64 N]] w fun e w' => e = .returned (.bool true) ∧ Below w.heap.size w w' := by
  obtain ⟨c, rfl⟩ : ∃ c : Nat, C = (c : Int) := ⟨C.toNat, by omega⟩
  have hc : c < 256 := by omega
  have hT2 := hT.below (box3_facts2 w vL (.int .u8 (c : Int)) (.int .i64 N) 24).1
  obtain ⟨hbel, hc0, hc1, hc2, hsz⟩ := box3_facts2 w vL (.int .u8 (c : Int)) (.int .i64 N) 24
  have HTT := Lib.hid hT2
  obtain ⟨A, kL, rfl⟩ := hT.row.shape
  have HL := Lib.hid hT2.row
  clear hT hT2
  go_enter Try.func5, Try.ntmps5
  go_wp2_with fail
  refine (heavy2_any _ (c : Int) N L _ HTT.out).mono ?_
  rintro e w1 ⟨bo, hbo, rfl, hb1⟩
  have hHL1 := HL.out.below hb1
  have HTT1 := Lib.hid (HTT.out.below hb1)
  have hlt0 : w.heap.size < (w.alloc (.cells #[.slice A L.length kL, .int .u8 (c : Int), .int .i64 N] 24)).heap.size := by rw [hsz]; omega
  have d0 := below_celllt hc0 hlt0 hb1
  have d1 := below_celllt hc1 hlt0 hb1
  have d2 := below_celllt hc2 hlt0 hb1
  have hb2 := hbel.trans (hb1.mono hbel.size)
  have hlt1 : w.heap.size < w1.heap.size := Nat.lt_of_lt_of_le hlt0 hb1.size
  have HL1 := Lib.hid hHL1
  clear hb1 hc0 hc1 hc2 hsz hbel HL HTT hlt0 hHL1
  generalize hB0 : w.heap.size = B0 at d0 d1 d2 hlt1
  cases bo
  · have hT9 := hbo rfl
    have HM : Hid (∀ s ∈ L, s.size ≤ 9000) := fun s hs => Nat.le_trans (total_mem hs) hT9
    have hLl : L.length ≤ 9000 := by unfold total at hT9; omega
    clear hbo hT9
    clear HTT1 d2
    go_wp2_with fail
    go_loopw [3] (fun i wr => ∃ k : Nat, i = .int .i64 k ∧ k ≤ L.length ∧ k ≤ 5 ∧ Below w1.heap.size w1 wr) (fun i _ => 5 - (intOf i).toNat)
    case atStart => exact ⟨0, rfl, by omega, by omega, Below.refl _ _⟩
    case round =>
      obtain ⟨i, rfl, hi, hi5, hcum⟩ := hrel
      obtain ⟨wo, rfl⟩ : ∃ wo : World, wo = wr := ⟨_, rfl⟩
      have e0 := below_celllt d0 hlt1 hcum
      have e1 := below_celllt d1 hlt1 hcum
      by_cases hlt : i + 1 < L.length ∧ i < 5
      · obtain ⟨hl1, hl2⟩ := hlt
        have hid : decide ((i : Int) < 5) = true := by simp; omega
        have hi0 : (0 : Int) ≤ (i : Int) := by omega
        have hi1 : (i : Int) < (L.length : Int) := by omega
        have hi2 : (0 : Int) ≤ (i : Int) + 1 := by omega
        have hi3 : (i : Int) + 1 < (L.length : Int) := by omega
        have hlA : i < L.length := by omega
        obtain ⟨b, o, rfl, hbl, hcell⟩ := HL1.out.at_ hlA
        obtain ⟨b', o', eA, _, hcell2⟩ := HL1.out.at_ hl1
        cases eA
        obtain ⟨s, hs⟩ : ∃ s, s = L[i]'hlA := ⟨_, rfl⟩
        obtain ⟨t, ht⟩ : ∃ t, t = L[i+1]'hl1 := ⟨_, rfl⟩
        rw [← hs] at hcell
        rw [← ht] at hcell2
        have hsz : s.size ≤ 9000 := by rw [hs]; exact HM.out _ (List.getElem_mem _)
        have htz : t.size ≤ 9000 := by rw [ht]; exact HM.out _ (List.getElem_mem _)
        have hcs := below_celllt hcell hbl hcum
        have hct := below_celllt hcell2 hbl hcum
        have hmn : min (s.size : Int) (t.size : Int) = ((min s.size t.size : Nat) : Int) := by omega
        have hn1 : (s.extract 0 (min s.size t.size)).size = min s.size t.size := by rw [ByteArray.size_extract]; omega
        have hn2 : (t.extract 0 (min s.size t.size)).size = min s.size t.size := by rw [ByteArray.size_extract]; omega
        obtain ⟨n, hn⟩ : ∃ n, n = min s.size t.size := ⟨_, rfl⟩
        rw [← hn] at hmn hn1 hn2
        have hns : n ≤ s.size := by omega
        have hnt : n ≤ t.size := by omega
        have HD0 := Lib.hid (show ∀ W', Below w1.heap.size w1 W' → W'.cell? ⟨B0, 1, none⟩ = some (.int .u8 (c : Int)) from fun W' h => below_celllt d1 hlt1 h)
        have HD1 := Lib.hid (show ∀ W', Below w1.heap.size w1 W' → W'.cell? ⟨B0, 0, none⟩ = some (.slice (some ⟨b, o, none⟩) L.length kL) ∧ W'.cell? ⟨b, o + i, none⟩ = some (.string s) ∧ W'.cell? ⟨b, o + (i + 1), none⟩ = some (.string t) from fun W' h => ⟨below_celllt d0 hlt1 h, below_celllt hcell hbl h, below_celllt hcell2 hbl h⟩)
        clear hs ht hcell hcell2 hn HM HL1
        go_wp2_with fail
        go_quiet (fail)
        all_goals
          have hcum := below_drewN hcum nq
          generalize wo.drewN nq = W1 at *
          have e0 := (HD1.out _ hcum).1
          have hcs := (HD1.out _ hcum).2.1
          have hct := (HD1.out _ hcum).2.2
          clear e1
          by_cases hn2k : n ≤ 2000
          · have hnd : decide ((2000 : Int) < (n : Int)) = false := by simp; omega
            go_wp2_with fail
            go_quiet (fail)
            all_goals
              have hcum := below_drewN hcum nq
              go_wp2_with fail
              generalize s.extract 0 n = p at *
              generalize t.extract 0 n = q at *
              obtain ⟨x, u, v, k1, k2, k3, k4, k5⟩ := back_facts p q c (by omega) (by omega) hc
              have K1 := Lib.hid k1
              have K2 := Lib.hid k2
              have K3 := Lib.hid k3
              have K4 := Lib.hid k4
              have K5 := Lib.hid k5
              clear k1 k2 k3 k4 k5
              generalize W1.drewN nq = W0 at *
              have e1 := HD0.out _ hcum
              go_wp2_with fail
              refine (K1.out _).mono ?_
              rintro e w' ⟨rfl, hb⟩
              have hcum := cum2 hcum hb
              clear hb e1
              have e1 := HD0.out _ hcum
              go_wp2_with fail
              refine (K2.out _).mono ?_
              rintro e w' ⟨rfl, hb⟩
              have hcum := cum2 hcum hb
              clear hb e1
              have e1 := HD0.out _ hcum
              go_wp2_with fail
              refine (K3.out _).mono ?_
              rintro e w' ⟨rfl, hb⟩
              have hcum := cum2 hcum hb
              clear hb e1
              have e1 := HD0.out _ hcum
              go_wp2_with fail
              refine (K4.out _).mono ?_
              rintro e w' ⟨rfl, hb⟩
              have hcum := cum2 hcum hb
              clear hb e1
              have e1 := HD0.out _ hcum
              go_wp2_with fail
              refine (K5.out _).mono ?_
              rintro e w' ⟨rfl, hb⟩
              have hcum := cum2 hcum hb
              clear hb e1
              go_wp2_with (go_at_call 9; refine (num2_any _ _).mono ?_; rintro e w' ⟨rfl, rfl⟩)
              go_roundw
              case rel => exact ⟨i + 1, by go_num, by omega, by omega, hcum⟩
              case measure => simp [intOf]; omega
          · have hnd : decide ((2000 : Int) < (n : Int)) = true := by simp; omega
            go_wp2_with fail
            (try simp only [Exit.inBlock, Exit.then])
            (try go_wp2_with fail)
            go_roundw
            case rel => exact ⟨i + 1, by go_num, by omega, by omega, hcum⟩
            case measure => simp [intOf]; omega
      · by_cases hl1 : i + 1 < L.length
        · have hid : decide ((i : Int) < 5) = false := by simp; omega
          go_wp2_with fail
          refine (wakes2_any _).mono ?_
          rintro e w3 ⟨rfl, hb4⟩
          have hx := hcum.trans (hb4.mono hcum.size)
          have hx2 := hb2.trans (hx.mono hb2.size)
          clear hb4
          go_wp2_with fail
          go_ret
          exact ⟨rfl, hx2⟩
        · skip
          go_wp2_with fail
          refine (wakes2_any _).mono ?_
          rintro e w3 ⟨rfl, hb4⟩
          have hx := hcum.trans (hb4.mono hcum.size)
          have hx2 := hb2.trans (hx.mono hb2.size)
          clear hb4
          go_wp2_with fail
          go_ret
          exact ⟨rfl, hx2⟩
  · go_wp2_with fail
    go_ret
    exact ⟨rfl, hb2⟩
end Go.Proofs.Ytdbdpdeehfeaiaa
