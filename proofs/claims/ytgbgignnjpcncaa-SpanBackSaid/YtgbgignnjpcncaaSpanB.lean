/- On which stripes a piece of a text lies: what the page says, as a list; both walks. -/
import Derived.Test.YtgbgignnjpcncaaSpanA
namespace Go.Proofs.Ytgbgignnjpcncaa
open Go.ChangeShapes Go.WideShapes Go.ChangeAt Go.RowKit Go.Joins
set_option linter.unusedVariables false
set_option linter.unusedSimpArgs false

theorem next_gt (w e a : Nat) (h : a < e) (hw : 0 < w) : a < min e ((a / w + 1) * w) := by
  have h1 := Nat.div_add_mod a w
  have h2 := Nat.mod_lt a hw
  have h3 : (a / w + 1) * w = w * (a / w) + w := by rw [Nat.add_mul, Nat.one_mul, Nat.mul_comm]
  omega

/-- The parts of stripes of w bytes from a to e. -/
def spanOf (w e a : Nat) : List T3 :=
  if h : a < e ∧ 0 < w then (((a / w : Nat) : Int), ((a - a / w * w : Nat) : Int), ((min e ((a / w + 1) * w) - a / w * w : Nat) : Int)) :: spanOf w e (min e ((a / w + 1) * w)) else []
termination_by e - a
decreasing_by have := next_gt w e a h.1 h.2; omega

theorem spanOf_step {w e a : Nat} (h : a < e) (hw : 0 < w) : spanOf w e a = (((a / w : Nat) : Int), ((a - a / w * w : Nat) : Int), ((min e ((a / w + 1) * w) - a / w * w : Nat) : Int)) :: spanOf w e (min e ((a / w + 1) * w)) := by
  rw [spanOf, dif_pos ⟨h, hw⟩]
theorem spanOf_end {w e a : Nat} (h : e ≤ a) : spanOf w e a = [] := by
  rw [spanOf, dif_neg (by omega)]

/-- Where the piece ends. -/
def endOf (n frm many : Int) : Nat := (frm + min many (n - frm)).toNat

theorem infoPart : (Try.prog.info? 54).map (fun i => (i.zero, i.size, i.bytes)) = some (some (.agg #[.int .i64 0, .int .i64 0, .int .i64 0]), 3, 24) := by kernel_rfl

theorem cell_three_new (w : World) (a b c : Value) (t : TypeId) : ∀ j u, [a, b, c][j]? = some u → (w.alloc (.cells #[a, b, c] t)).cell? ((⟨w.heap.size, 0, none⟩ : Addr).add j) = some u := by
  intro j u hj
  match j, hj with
  | 0, hj => simp at hj; subst hj; simp [Addr.add]
  | 1, hj => simp at hj; subst hj; simp [Addr.add]
  | 2, hj => simp at hj; subst hj; simp [Addr.add]
  | j + 3, hj => simp at hj

/-- The sums of one round. -/
theorem span_round {lg E a : Nat} (h : a < E) (hE : E ≤ 2000) (h1 : 1 ≤ lg) (h2 : lg ≤ 960) : ∃ q ql hi : Nat, (a : Int) / (lg : Int) = (q : Int) ∧ (q : Int) * (lg : Int) = (ql : Int) ∧ ((q : Int) + 1) * (lg : Int) = (hi : Int) ∧ q ≤ 2000 ∧ ql ≤ a ∧ hi ≤ a + 960 ∧ a < hi ∧
    spanOf lg E a = ((q : Int), (a : Int) - (ql : Int), ((min E hi : Nat) : Int) - (ql : Int)) :: spanOf lg E (min E hi) := by
  have e3 : (a / lg + 1) * lg = a / lg * lg + lg := by rw [Nat.add_mul, Nat.one_mul]
  have e1 := Nat.div_add_mod a lg
  have e2 := Nat.mod_lt a (show 0 < lg by omega)
  rw [Nat.mul_comm] at e1
  have e4 := Nat.div_le_self a lg
  have e5 := spanOf_step h h1
  rw [e3] at e5
  refine ⟨a / lg, a / lg * lg, a / lg * lg + lg, by omega, by rw [Int.natCast_mul], ?_, by omega, by omega, by omega, by omega, ?_⟩
  · rw [Int.add_mul, Int.one_mul, Int.natCast_add, Int.natCast_mul]
  · rw [e5]
    generalize a / lg * lg = ql at *
    congr 3
    · omega
    · omega

set_option maxRecDepth 100000 in
set_option maxHeartbeats 4000000 in
theorem parts_yes (k m z n frm many : Int) (w : World) (hmay : mayB (k, m, z) = true) (hn0 : 0 ≤ n) (hn : n ≤ 2000) (hf0 : 0 ≤ frm) (hf : frm ≤ n) (hm0 : 0 ≤ many) (hm1 : many ≤ 9223372036854775807) :
    Calls Try.prog 9 #[.agg #[.int .i64 k, .int .i64 m, .int .i64 z], .int .i64 n, .int .i64 frm, .int .i64 many] w fun e w' => ∃ v, e = .returned (.tuple #[v, .int .i64 0]) ∧ ThreesIn w' v (spanOf (k * z).toNat (endOf n frm many) frm.toNat) ∧ Below w.heap.size w w' := by
  obtain ⟨i0, hi, hz0, hz1, hz2⟩ := info_parts infoPart
  obtain ⟨hb, h0, h1, h2, hsz⟩ := box3_facts w (.int .i64 k) (.int .i64 m) (.int .i64 z) 32
  have hmay' := hmay
  simp only [mayB, decide_eq_true_eq] at hmay'
  obtain ⟨k1, k8, m0, m6, z1, z120⟩ := hmay'
  obtain ⟨lg, hlg⟩ : ∃ lg : Nat, k * z = (lg : Int) := ⟨(k * z).toNat, by rw [Int.toNat_of_nonneg]; exact Int.mul_nonneg (by omega) (by omega)⟩
  have hlg1 : 1 ≤ lg := by
    have : 1 * 1 ≤ k * z := Int.mul_le_mul k1 z1 (by omega) (by omega)
    omega
  have hlg2 : lg ≤ 960 := by
    have : k * z ≤ 8 * 120 := Int.mul_le_mul k8 z120 (by omega) (by omega)
    omega
  obtain ⟨a0, rfl⟩ : ∃ a0 : Nat, frm = (a0 : Int) := ⟨frm.toNat, by omega⟩
  obtain ⟨E, hE⟩ : ∃ E : Nat, (a0 : Int) + min many (n - a0) = (E : Int) := ⟨endOf n a0 many, by unfold endOf; omega⟩
  have hEe : endOf n a0 many = E := by unfold endOf; omega
  have hE1 : E ≤ 2000 := by omega
  rw [hEe, hlg, Int.toNat_natCast, Int.toNat_natCast]
  have HL : Hid (∃ L, L = spanOf lg E a0) := ⟨_, rfl⟩
  obtain ⟨L, hL⟩ := HL.out
  rw [← hL]
  have HL := Lib.hid hL
  clear hL hEe
  have d1 : decide (n < 0) = false := by simp; omega
  have d2 : decide (2000 < n) = false := by simp; omega
  have d3 : decide ((a0 : Int) < 0) = false := by simp
  have d4 : decide (n < (a0 : Int)) = false := by simp; omega
  have d5 : decide (many < 0) = false := by simp; omega
  go_enter Try.func9, Try.ntmps9
  go_wp2_with fail
  refine (may_any k m z _).mono ?_
  rintro e w' ⟨rfl, hb1⟩
  rw [hmay]
  have g0 := below_cellj h0 hsz hb1
  have g2 := below_cellj h2 hsz hb1
  have hb2 := hb.trans (hb1.mono hb.size)
  clear hb hb1 h0 h1 h2 hsz
  by_cases hmn : many ≤ n - a0
  · have hEE : (a0 : Int) + many = (E : Int) := by omega
    go_wp2_with fail
    go_loopw [2, 10] (fun f l wr => ∃ (a : Nat) (L' : List T3), f = .int .i64 a ∧ wr.ownsRow w.heap.size 54 3 l L'.length (rows3 L') ∧ Hid (L' ++ spanOf lg E a = L) ∧ a ≤ 4000 ∧ L'.length ≤ a ∧ Below w.heap.size w wr) (fun f _ _ => E - (intOf f).toNat)
    case atStart => exact ⟨a0, [], rfl, World.ownsRow_nil _ _ _ _, by rw [Hid, List.nil_append, HL.out], by omega, by simp, hb2⟩
    case round =>
      obtain ⟨a, L', rfl, hown, HA, ha, hla, hwr⟩ := hrel
      by_cases hlt : a < E
      · obtain ⟨q, ql, hi', hq1, hq2, hq3, hq4, hq5, hq6, hq7, hstep⟩ := span_round hlt hE1 hlg1 hlg2
        have HS := Lib.hid hstep
        clear hstep
        by_cases hmx : E ≤ hi'
        · have hmin : min E hi' = E := by omega
          go_wp2_with (first
            | (at_builtin; refine wpList_append_own _ rfl _ _ 27 rfl w.heap.size 54 i0 (.agg #[.int .i64 0, .int .i64 0, .int .i64 0]) 3 24 Try.underlying27 hi hz0 hz1 hz2 rfl (by decide) _ _ _ rfl (hown.alloc _) ⟨wr.heap.size, 0, none⟩ 1 1 [.int .i64 q, .int .i64 ((a : Int) - (ql : Int)), .int .i64 ((E : Int) - (ql : Int))] rfl rfl ?c1 ?c2 ?c3 ?c4 ?c5 ?_)
            | go_in)
          case c1 => exact cell_three_new _ _ _ _ _
          case c2 => intro u hu; simp at hu; rcases hu with rfl | rfl | rfl <;> rfl
          case c3 => unfold maxLen; omega
          case c4 => omega
          case c5 => have := hwr.size; simp; omega
          all_goals
            intro v' w1 hown' hgrow _
            have hbw := append_below hwr hown hgrow
            clear hown hgrow hwr
            go_wp2_with fail
            go_roundw
            case rel =>
              refine ⟨E, L' ++ [((q : Int), (a : Int) - (ql : Int), (E : Int) - (ql : Int))], rfl, ?_, ?_, by omega, by simp; omega, hbw⟩
              · rw [rows3_snoc, List.length_append]; exact hown'
              · have := HA.out
                rw [HS.out, hmin] at this
                simpa [Hid] using this
            case measure => simp [intOf]; omega
        · have hmin : min E hi' = hi' := by omega
          go_wp2_with (first
            | (at_builtin; refine wpList_append_own _ rfl _ _ 27 rfl w.heap.size 54 i0 (.agg #[.int .i64 0, .int .i64 0, .int .i64 0]) 3 24 Try.underlying27 hi hz0 hz1 hz2 rfl (by decide) _ _ _ rfl (hown.alloc _) ⟨wr.heap.size, 0, none⟩ 1 1 [.int .i64 q, .int .i64 ((a : Int) - (ql : Int)), .int .i64 ((hi' : Int) - (ql : Int))] rfl rfl ?c1 ?c2 ?c3 ?c4 ?c5 ?_)
            | go_in)
          case c1 => exact cell_three_new _ _ _ _ _
          case c2 => intro u hu; simp at hu; rcases hu with rfl | rfl | rfl <;> rfl
          case c3 => unfold maxLen; omega
          case c4 => omega
          case c5 => have := hwr.size; simp; omega
          all_goals
            intro v' w1 hown' hgrow _
            have hbw := append_below hwr hown hgrow
            clear hown hgrow hwr
            go_wp2_with fail
            go_roundw
            case rel =>
              refine ⟨hi', L' ++ [((q : Int), (a : Int) - (ql : Int), (hi' : Int) - (ql : Int))], rfl, ?_, ?_, by omega, by simp; omega, hbw⟩
              · rw [rows3_snoc, List.length_append]; exact hown'
              · have := HA.out
                rw [HS.out, hmin] at this
                simpa [Hid] using this
            case measure => simp [intOf]; omega
      · go_wp2_with fail
        go_ret2
        refine ⟨_, rfl, ?_, hwr⟩
        have := HA.out
        rw [spanOf_end (by omega), List.append_nil] at this
        subst this
        exact RowIs.of_own hown
  · have hEs : (a0 : Int) + (n - (a0 : Int)) = (E : Int) := by omega
    go_wp2_with fail
    go_loopw [2, 10] (fun f l wr => ∃ (a : Nat) (L' : List T3), f = .int .i64 a ∧ wr.ownsRow w.heap.size 54 3 l L'.length (rows3 L') ∧ Hid (L' ++ spanOf lg E a = L) ∧ a ≤ 4000 ∧ L'.length ≤ a ∧ Below w.heap.size w wr) (fun f _ _ => E - (intOf f).toNat)
    case atStart => exact ⟨a0, [], rfl, World.ownsRow_nil _ _ _ _, by rw [Hid, List.nil_append, HL.out], by omega, by simp, hb2⟩
    case round =>
      obtain ⟨a, L', rfl, hown, HA, ha, hla, hwr⟩ := hrel
      by_cases hlt : a < E
      · obtain ⟨q, ql, hi', hq1, hq2, hq3, hq4, hq5, hq6, hq7, hstep⟩ := span_round hlt hE1 hlg1 hlg2
        have HS := Lib.hid hstep
        clear hstep
        by_cases hmx : E ≤ hi'
        · have hmin : min E hi' = E := by omega
          go_wp2_with (first
            | (at_builtin; refine wpList_append_own _ rfl _ _ 27 rfl w.heap.size 54 i0 (.agg #[.int .i64 0, .int .i64 0, .int .i64 0]) 3 24 Try.underlying27 hi hz0 hz1 hz2 rfl (by decide) _ _ _ rfl (hown.alloc _) ⟨wr.heap.size, 0, none⟩ 1 1 [.int .i64 q, .int .i64 ((a : Int) - (ql : Int)), .int .i64 ((E : Int) - (ql : Int))] rfl rfl ?c1 ?c2 ?c3 ?c4 ?c5 ?_)
            | go_in)
          case c1 => exact cell_three_new _ _ _ _ _
          case c2 => intro u hu; simp at hu; rcases hu with rfl | rfl | rfl <;> rfl
          case c3 => unfold maxLen; omega
          case c4 => omega
          case c5 => have := hwr.size; simp; omega
          all_goals
            intro v' w1 hown' hgrow _
            have hbw := append_below hwr hown hgrow
            clear hown hgrow hwr
            go_wp2_with fail
            go_roundw
            case rel =>
              refine ⟨E, L' ++ [((q : Int), (a : Int) - (ql : Int), (E : Int) - (ql : Int))], rfl, ?_, ?_, by omega, by simp; omega, hbw⟩
              · rw [rows3_snoc, List.length_append]; exact hown'
              · have := HA.out
                rw [HS.out, hmin] at this
                simpa [Hid] using this
            case measure => simp [intOf]; omega
        · have hmin : min E hi' = hi' := by omega
          go_wp2_with (first
            | (at_builtin; refine wpList_append_own _ rfl _ _ 27 rfl w.heap.size 54 i0 (.agg #[.int .i64 0, .int .i64 0, .int .i64 0]) 3 24 Try.underlying27 hi hz0 hz1 hz2 rfl (by decide) _ _ _ rfl (hown.alloc _) ⟨wr.heap.size, 0, none⟩ 1 1 [.int .i64 q, .int .i64 ((a : Int) - (ql : Int)), .int .i64 ((hi' : Int) - (ql : Int))] rfl rfl ?c1 ?c2 ?c3 ?c4 ?c5 ?_)
            | go_in)
          case c1 => exact cell_three_new _ _ _ _ _
          case c2 => intro u hu; simp at hu; rcases hu with rfl | rfl | rfl <;> rfl
          case c3 => unfold maxLen; omega
          case c4 => omega
          case c5 => have := hwr.size; simp; omega
          all_goals
            intro v' w1 hown' hgrow _
            have hbw := append_below hwr hown hgrow
            clear hown hgrow hwr
            go_wp2_with fail
            go_roundw
            case rel =>
              refine ⟨hi', L' ++ [((q : Int), (a : Int) - (ql : Int), (hi' : Int) - (ql : Int))], rfl, ?_, ?_, by omega, by simp; omega, hbw⟩
              · rw [rows3_snoc, List.length_append]; exact hown'
              · have := HA.out
                rw [HS.out, hmin] at this
                simpa [Hid] using this
            case measure => simp [intOf]; omega
      · go_wp2_with fail
        go_ret2
        refine ⟨_, rfl, ?_, hwr⟩
        have := HA.out
        rw [spanOf_end (by omega), List.append_nil] at this
        subst this
        exact RowIs.of_own hown
set_option maxRecDepth 100000 in
set_option maxHeartbeats 4000000 in
theorem refSpan_yes (k m z n frm many : Int) (w : World) (hmay : mayB (k, m, z) = true) (hn0 : 0 ≤ n) (hn : n ≤ 2000) (hf0 : 0 ≤ frm) (hf : frm ≤ n) (hm0 : 0 ≤ many) (hm1 : many ≤ 9223372036854775807) :
    Calls Try.prog 12 #[.agg #[.int .i64 k, .int .i64 m, .int .i64 z], .int .i64 n, .int .i64 frm, .int .i64 many] w fun e w' => ∃ v, e = .returned v ∧ ThreesIn w' v (spanOf (k * z).toNat (endOf n frm many) frm.toNat) ∧ Below w.heap.size w w' := by
  obtain ⟨i0, hi, hz0, hz1, hz2⟩ := info_parts infoPart
  obtain ⟨hb, h0, h1, h2, hsz⟩ := box3_facts w (.int .i64 k) (.int .i64 m) (.int .i64 z) 32
  have hmay' := hmay
  simp only [mayB, decide_eq_true_eq] at hmay'
  obtain ⟨k1, k8, m0, m6, z1, z120⟩ := hmay'
  obtain ⟨lg, hlg⟩ : ∃ lg : Nat, k * z = (lg : Int) := ⟨(k * z).toNat, by rw [Int.toNat_of_nonneg]; exact Int.mul_nonneg (by omega) (by omega)⟩
  have hlg1 : 1 ≤ lg := by
    have : 1 * 1 ≤ k * z := Int.mul_le_mul k1 z1 (by omega) (by omega)
    omega
  have hlg2 : lg ≤ 960 := by
    have : k * z ≤ 8 * 120 := Int.mul_le_mul k8 z120 (by omega) (by omega)
    omega
  obtain ⟨a0, rfl⟩ : ∃ a0 : Nat, frm = (a0 : Int) := ⟨frm.toNat, by omega⟩
  obtain ⟨E, hE⟩ : ∃ E : Nat, (a0 : Int) + min many (n - a0) = (E : Int) := ⟨endOf n a0 many, by unfold endOf; omega⟩
  have hEe : endOf n a0 many = E := by unfold endOf; omega
  have hE1 : E ≤ 2000 := by omega
  rw [hEe, hlg, Int.toNat_natCast, Int.toNat_natCast]
  have HL : Hid (∃ L, L = spanOf lg E a0) := ⟨_, rfl⟩
  obtain ⟨L, hL⟩ := HL.out
  rw [← hL]
  have HL := Lib.hid hL
  clear hL hEe
  have d1 : decide (n < 0) = false := by simp; omega
  have d2 : decide (2000 < n) = false := by simp; omega
  have d3 : decide ((a0 : Int) < 0) = false := by simp
  have d4 : decide (n < (a0 : Int)) = false := by simp; omega
  have d5 : decide (many < 0) = false := by simp; omega
  go_enter Try.func12, Try.ntmps12
  have hb2 := hb
  have d6 : decide ((a0 : Int) < 0) = false := by simp
  by_cases hmn : many < n - a0
  · have hEE : (a0 : Int) + many = (E : Int) := by omega
    go_wp2_with fail
    go_loopw [9, 12] (fun l f wr => ∃ (a : Nat) (L' : List T3), f = .int .i64 a ∧ wr.ownsRow w.heap.size 54 3 l L'.length (rows3 L') ∧ Hid (L' ++ spanOf lg E a = L) ∧ a ≤ 4000 ∧ L'.length ≤ a ∧ Below w.heap.size w wr) (fun _ f _ => E - (intOf f).toNat)
    case atStart => exact ⟨a0, [], rfl, World.ownsRow_nil _ _ _ _, by rw [Hid, List.nil_append, HL.out], by omega, by simp, hb2⟩
    case round =>
      obtain ⟨a, L', rfl, hown, HA, ha, hla, hwr⟩ := hrel
      by_cases hlt : a < E
      · obtain ⟨q, ql, hi', hq1, hq2, hq3, hq4, hq5, hq6, hq7, hstep⟩ := span_round hlt hE1 hlg1 hlg2
        have HS := Lib.hid hstep
        clear hstep
        by_cases hmx : E ≤ hi'
        · have hmin : min E hi' = E := by omega
          go_wp2_with (first
            | (at_builtin; refine wpList_append_own _ rfl _ _ 27 rfl w.heap.size 54 i0 (.agg #[.int .i64 0, .int .i64 0, .int .i64 0]) 3 24 Try.underlying27 hi hz0 hz1 hz2 rfl (by decide) _ _ _ rfl (hown.alloc _) ⟨wr.heap.size, 0, none⟩ 1 1 [.int .i64 q, .int .i64 ((a : Int) - (ql : Int)), .int .i64 ((E : Int) - (ql : Int))] rfl rfl ?c1 ?c2 ?c3 ?c4 ?c5 ?_)
            | go_in)
          case c1 => exact cell_three_new _ _ _ _ _
          case c2 => intro u hu; simp at hu; rcases hu with rfl | rfl | rfl <;> rfl
          case c3 => unfold maxLen; omega
          case c4 => omega
          case c5 => have := hwr.size; simp; omega
          all_goals
            intro v' w1 hown' hgrow _
            have hbw := append_below hwr hown hgrow
            clear hown hgrow hwr
            go_wp2_with fail
            go_roundw
            case rel =>
              refine ⟨E, L' ++ [((q : Int), (a : Int) - (ql : Int), (E : Int) - (ql : Int))], rfl, ?_, ?_, by omega, by simp; omega, hbw⟩
              · rw [rows3_snoc, List.length_append]; exact hown'
              · have := HA.out
                rw [HS.out, hmin] at this
                simpa [Hid] using this
            case measure => simp [intOf]; omega
        · have hmin : min E hi' = hi' := by omega
          go_wp2_with (first
            | (at_builtin; refine wpList_append_own _ rfl _ _ 27 rfl w.heap.size 54 i0 (.agg #[.int .i64 0, .int .i64 0, .int .i64 0]) 3 24 Try.underlying27 hi hz0 hz1 hz2 rfl (by decide) _ _ _ rfl (hown.alloc _) ⟨wr.heap.size, 0, none⟩ 1 1 [.int .i64 q, .int .i64 ((a : Int) - (ql : Int)), .int .i64 ((hi' : Int) - (ql : Int))] rfl rfl ?c1 ?c2 ?c3 ?c4 ?c5 ?_)
            | go_in)
          case c1 => exact cell_three_new _ _ _ _ _
          case c2 => intro u hu; simp at hu; rcases hu with rfl | rfl | rfl <;> rfl
          case c3 => unfold maxLen; omega
          case c4 => omega
          case c5 => have := hwr.size; simp; omega
          all_goals
            intro v' w1 hown' hgrow _
            have hbw := append_below hwr hown hgrow
            clear hown hgrow hwr
            go_wp2_with fail
            go_roundw
            case rel =>
              refine ⟨hi', L' ++ [((q : Int), (a : Int) - (ql : Int), (hi' : Int) - (ql : Int))], rfl, ?_, ?_, by omega, by simp; omega, hbw⟩
              · rw [rows3_snoc, List.length_append]; exact hown'
              · have := HA.out
                rw [HS.out, hmin] at this
                simpa [Hid] using this
            case measure => simp [intOf]; omega
      · go_wp2_with fail
        go_ret
        refine ⟨_, rfl, ?_, hwr⟩
        have := HA.out
        rw [spanOf_end (by omega), List.append_nil] at this
        subst this
        exact RowIs.of_own hown
  · have hEE : n = (E : Int) := by omega
    subst hEE
    go_wp2_with fail
    go_loopw [9, 12] (fun l f wr => ∃ (a : Nat) (L' : List T3), f = .int .i64 a ∧ wr.ownsRow w.heap.size 54 3 l L'.length (rows3 L') ∧ Hid (L' ++ spanOf lg E a = L) ∧ a ≤ 4000 ∧ L'.length ≤ a ∧ Below w.heap.size w wr) (fun _ f _ => E - (intOf f).toNat)
    case atStart => exact ⟨a0, [], rfl, World.ownsRow_nil _ _ _ _, by rw [Hid, List.nil_append, HL.out], by omega, by simp, hb2⟩
    case round =>
      obtain ⟨a, L', rfl, hown, HA, ha, hla, hwr⟩ := hrel
      by_cases hlt : a < E
      · obtain ⟨q, ql, hi', hq1, hq2, hq3, hq4, hq5, hq6, hq7, hstep⟩ := span_round hlt hE1 hlg1 hlg2
        have HS := Lib.hid hstep
        clear hstep
        by_cases hmx : E ≤ hi'
        · have hmin : min E hi' = E := by omega
          go_wp2_with (first
            | (at_builtin; refine wpList_append_own _ rfl _ _ 27 rfl w.heap.size 54 i0 (.agg #[.int .i64 0, .int .i64 0, .int .i64 0]) 3 24 Try.underlying27 hi hz0 hz1 hz2 rfl (by decide) _ _ _ rfl (hown.alloc _) ⟨wr.heap.size, 0, none⟩ 1 1 [.int .i64 q, .int .i64 ((a : Int) - (ql : Int)), .int .i64 ((E : Int) - (ql : Int))] rfl rfl ?c1 ?c2 ?c3 ?c4 ?c5 ?_)
            | go_in)
          case c1 => exact cell_three_new _ _ _ _ _
          case c2 => intro u hu; simp at hu; rcases hu with rfl | rfl | rfl <;> rfl
          case c3 => unfold maxLen; omega
          case c4 => omega
          case c5 => have := hwr.size; simp; omega
          all_goals
            intro v' w1 hown' hgrow _
            have hbw := append_below hwr hown hgrow
            clear hown hgrow hwr
            go_wp2_with fail
            go_roundw
            case rel =>
              refine ⟨E, L' ++ [((q : Int), (a : Int) - (ql : Int), (E : Int) - (ql : Int))], rfl, ?_, ?_, by omega, by simp; omega, hbw⟩
              · rw [rows3_snoc, List.length_append]; exact hown'
              · have := HA.out
                rw [HS.out, hmin] at this
                simpa [Hid] using this
            case measure => simp [intOf]; omega
        · have hmin : min E hi' = hi' := by omega
          go_wp2_with (first
            | (at_builtin; refine wpList_append_own _ rfl _ _ 27 rfl w.heap.size 54 i0 (.agg #[.int .i64 0, .int .i64 0, .int .i64 0]) 3 24 Try.underlying27 hi hz0 hz1 hz2 rfl (by decide) _ _ _ rfl (hown.alloc _) ⟨wr.heap.size, 0, none⟩ 1 1 [.int .i64 q, .int .i64 ((a : Int) - (ql : Int)), .int .i64 ((hi' : Int) - (ql : Int))] rfl rfl ?c1 ?c2 ?c3 ?c4 ?c5 ?_)
            | go_in)
          case c1 => exact cell_three_new _ _ _ _ _
          case c2 => intro u hu; simp at hu; rcases hu with rfl | rfl | rfl <;> rfl
          case c3 => unfold maxLen; omega
          case c4 => omega
          case c5 => have := hwr.size; simp; omega
          all_goals
            intro v' w1 hown' hgrow _
            have hbw := append_below hwr hown hgrow
            clear hown hgrow hwr
            go_wp2_with fail
            go_roundw
            case rel =>
              refine ⟨hi', L' ++ [((q : Int), (a : Int) - (ql : Int), (hi' : Int) - (ql : Int))], rfl, ?_, ?_, by omega, by simp; omega, hbw⟩
              · rw [rows3_snoc, List.length_append]; exact hown'
              · have := HA.out
                rw [HS.out, hmin] at this
                simpa [Hid] using this
            case measure => simp [intOf]; omega
      · go_wp2_with fail
        go_ret
        refine ⟨_, rfl, ?_, hwr⟩
        have := HA.out
        rw [spanOf_end (by omega), List.append_nil] at this
        subst this
        exact RowIs.of_own hown
end Go.Proofs.Ytgbgignnjpcncaa
