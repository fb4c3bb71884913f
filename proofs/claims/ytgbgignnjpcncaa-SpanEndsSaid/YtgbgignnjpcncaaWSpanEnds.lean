/- SpanEnds, walked. -/
import Derived.Test.YtgbgignnjpcncaaSpanC
import Derived.Deep.RegionHeld3
namespace Go.Proofs.Ytgbgignnjpcncaa
open Go.ChangeShapes Go.WideShapes Go.ChangeAt Go.RowKit Go.Joins
set_option linter.unusedVariables false
set_option linter.unusedSimpArgs false

theorem spanOf_length (w e : Nat) : ∀ a, (spanOf w e a).length ≤ e := by
  have h : ∀ (m a : Nat), e - a ≤ m → (spanOf w e a).length ≤ e - a := by
    intro m
    induction m with
    | zero => intro a ha; rw [spanOf_end (by omega)]; simp
    | succ m ih =>
      intro a ha
      by_cases hlt : a < e
      · by_cases hw : 0 < w
        · rw [spanOf_step hlt hw, List.length_cons]
          have := next_gt w e a hlt hw
          have := ih (min e ((a / w + 1) * w)) (by omega)
          omega
        · rw [spanOf, dif_neg (by omega)]; simp
      · rw [spanOf_end (by omega)]; simp
  intro a
  exact Nat.le_trans (h _ a (Nat.le_refl _)) (by omega)

set_option maxRecDepth 100000 in
set_option maxHeartbeats 4000000 in
theorem spanEnds_walk {c0 c1 c2 c6 : Value} {N A B : Int} {S : List T3} {L : List ByteArray} {Bs : List Bool} {Ps : List T3} (w : World) (q : Ask8 w c0 c1 c2 c6 N A B S L Bs Ps) :
    Calls Try.prog 4 #[.agg #[c0, c1, c2, .int .i64 N, .int .i64 A, .int .i64 B, c6]] w fun e w' => e = .returned (.bool true) ∧ Below w.heap.size w w' := by
  obtain ⟨hbel, hc0, hc1, hc2, hc3, hc4, hc5, hc6, hsz⟩ := box7_facts w c0 c1 c2 (.int .i64 N) (.int .i64 A) (.int .i64 B) c6 29
  have q2 := q.below hbel
  obtain ⟨a, ha, ha1, ha2⟩ : ∃ a : Int, withinI A 3 = a ∧ 0 ≤ a ∧ a < 3 := ⟨_, rfl, (within_bd A 3 (by omega) (by omega)).1, (within_bd A 3 (by omega) (by omega)).2⟩
  obtain ⟨b, hb, hbb1, hbb2⟩ : ∃ a : Int, withinI B 3 = a ∧ 0 ≤ a ∧ a < 3 := ⟨_, rfl, (within_bd B 3 (by omega) (by omega)).1, (within_bd B 3 (by omega) (by omega)).2⟩
  obtain ⟨n, hn, hn1, hn2⟩ : ∃ a : Nat, withinI N 25 = a ∧ 0 ≤ a ∧ a < 25 := ⟨(withinI N 25).toNat, by have := within_bd N 25 (by omega) (by omega); omega, by omega, by have := within_bd N 25 (by omega) (by omega); omega⟩
  go_enter Try.func4, Try.ntmps4
  go_wp2_with fail
  refine (heavy8_any q2).mono ?_
  rintro e w1 ⟨bo, hbo, rfl, hb1⟩
  have g3 := below_cellj hc3 hsz hb1
  have g4 := below_cellj hc4 hsz hb1
  have g5 := below_cellj hc5 hsz hb1
  have hb2 := hbel.trans (hb1.mono hbel.size)
  have hlt0 : w.heap.size < w1.heap.size := by have := hb1.size; rw [hsz] at this; omega
  have e1 : IntKind.i64.wrap (1 + a) = 1 + a := by rw [IntKind.wrap_i64]; omega
  have e2 : IntKind.i64.wrap (1 + b) = 1 + b := by rw [IntKind.wrap_i64]; omega
  have hmay : mayB (1 + a, 0, 1 + b) = true := by simp [mayB]; omega
  clear hb1 hbo hc0 hc1 hc2 hc3 hc4 hc5 hc6 q2 q hsz hbel
  cases bo
  · go_wp2_with fail
    go_region_held3 (fun w' => w'.cell? ⟨w.heap.size, 4, none⟩ = some (.int .i64 A) ∧ w'.cell? ⟨w.heap.size, 5, none⟩ = some (.int .i64 B)) (go_keep) (first | (go_at_call 8; refine (within_any _ _ _ (by omega) (by omega)).mono ?_; rintro e w' ⟨rfl, rfl⟩))
    all_goals
      obtain ⟨hbx, s0, s1, s2, hs3⟩ := box3_facts w1 (.int .i64 (1 + a)) (.int .i64 0) (.int .i64 (1 + b)) 32
      have hbx : Below w1.heap.size w1 (w1.alloc (.cells #[.int .i64 (1 + a), .int .i64 0, .int .i64 (1 + b)] 32)).drew := hbx.trans ⟨rfl, rfl, rfl, Nat.le_refl _, fun _ _ => rfl⟩
      have s0 : (w1.alloc (.cells #[.int .i64 (1 + a), .int .i64 0, .int .i64 (1 + b)] 32)).drew.cell? ⟨w1.heap.size, 0, none⟩ = some (.int .i64 (1 + a)) := s0
      have s1 : (w1.alloc (.cells #[.int .i64 (1 + a), .int .i64 0, .int .i64 (1 + b)] 32)).drew.cell? ⟨w1.heap.size, 1, none⟩ = some (.int .i64 0) := s1
      have s2 : (w1.alloc (.cells #[.int .i64 (1 + a), .int .i64 0, .int .i64 (1 + b)] 32)).drew.cell? ⟨w1.heap.size, 2, none⟩ = some (.int .i64 (1 + b)) := s2
      have hs3 : (w1.alloc (.cells #[.int .i64 (1 + a), .int .i64 0, .int .i64 (1 + b)] 32)).drew.heap.size = w1.heap.size + 1 := hs3
      generalize (w1.alloc (.cells #[.int .i64 (1 + a), .int .i64 0, .int .i64 (1 + b)] 32)).drew = W2 at *
      have g3' : W2.cell? ⟨w.heap.size, 3, none⟩ = some (.int .i64 N) := by rw [hbx.cell (p := ⟨w.heap.size, 3, none⟩) hlt0]; exact g3
      have hb3 := hb2.trans (hbx.mono hb2.size)
      generalize w1.heap.size = B at *
      clear g3 g4 g5 hbx hb2 e1 e2
      go_wp2_with (go_at_call 8; refine (within_any _ _ _ (by omega) (by omega)).mono ?_; rintro e w' ⟨rfl, rfl⟩)
      go_loopw [5] (fun f wr => ∃ k : Nat, f = .int .i64 k ∧ k ≤ n + 1 ∧ Below W2.heap.size W2 wr) (fun f _ => n + 1 - (intOf f).toNat)
      case atStart => exact ⟨0, rfl, by omega, Below.refl _ _⟩
      case round =>
        obtain ⟨k, rfl, hk, hwr⟩ := hrel
        obtain ⟨wo, rfl⟩ : ∃ wo : World, wo = wr := ⟨_, rfl⟩
        by_cases hlt : k ≤ n
        · go_wp2_with fail
          go_loopw [6] (fun f wr => ∃ j : Nat, f = .int .i64 j ∧ j ≤ n + 2 ∧ Below W2.heap.size W2 wr) (fun f _ => n + 2 - (intOf f).toNat)
          case atStart => exact ⟨0, rfl, by omega, hwr⟩
          case round =>
            obtain ⟨j, rfl, hj, hwr2⟩ := hrel
            by_cases hlt2 : j ≤ n + 1
            · have r0 := below_cellj s0 hs3 hwr2
              have r1 := below_cellj s1 hs3 hwr2
              have r2 := below_cellj s2 hs3 hwr2
              go_wp2_with fail
              refine (parts_yes (1 + a) 0 (1 + b) n k j _ hmay (by omega) (by omega) (by omega) (by omega) (by omega) (by omega)).mono ?_
              rintro e w3 ⟨v, rfl, hv, hbv⟩
              have hw3 := hwr2.trans (hbv.mono hwr2.size)
              clear r0 r1 r2 hbv
              have r0 := below_cellj s0 hs3 hw3
              have r1 := below_cellj s1 hs3 hw3
              have r2 := below_cellj s2 hs3 hw3
              go_wp2_with (go_at_call 13; refine (num8_any _ _).mono ?_; rintro e w' ⟨rfl, rfl⟩)
              refine (refSpan_yes (1 + a) 0 (1 + b) n k j _ hmay (by omega) (by omega) (by omega) (by omega) (by omega) (by omega)).mono ?_
              rintro e w4 ⟨v', rfl, hv', hbv⟩
              have hw4 := hw3.trans (hbv.mono hw3.size)
              have hv2 := hv.below hbv
              clear hv hbv r0 r1 r2
              generalize hLL : spanOf ((1 + a) * (1 + b)).toNat (endOf n k j) (k : Int).toNat = LL at *
              have hlen : LL.length ≤ 9000000000000000000 := by rw [← hLL]; exact Nat.le_trans (spanOf_length _ _ _) (by unfold endOf; omega)
              have HV := Lib.hid hv2
              have HV' := Lib.hid hv'
              clear hv2 hv'
              go_wp2_with fail
              refine (eqParts_yes _ _ LL _ HV.out HV'.out hlen).mono ?_
              rintro e w5 ⟨rfl, hb5⟩
              have hw5 := hw4.trans (hb5.mono hw4.size)
              clear hb5
              go_wp2_with fail
              go_roundw
              case rel => exact ⟨j + 1, by go_num, by omega, hw5⟩
              case measure => simp [intOf]; omega
            · go_wp2_with fail
              go_roundw
              case rel => exact ⟨k + 1, by go_num, by omega, hwr2⟩
              case measure => simp [intOf]; omega
        · go_wp2_with fail
          refine (wakes8_any _).mono ?_
          rintro e w3 ⟨rfl, hb4⟩
          have hx := hwr.trans (hb4.mono hwr.size)
          have hx2 := hb3.trans (hx.mono hb3.size)
          clear hb4
          go_wp2_with fail
          go_ret
          exact ⟨rfl, hx2⟩
  · go_wp2_with fail
    go_ret
    exact ⟨rfl, hb2⟩
end Go.Proofs.Ytgbgignnjpcncaa
