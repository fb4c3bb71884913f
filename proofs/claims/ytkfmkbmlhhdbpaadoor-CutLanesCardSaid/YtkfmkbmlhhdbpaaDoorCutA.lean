/- A text stripe by stripe: the walk of the program's own. -/
import Derived.Test.YtkfmkbmlhhdbpaaDoorPartsOf
namespace Go.Proofs.YtkfmkbmlhhdbpaaDoor
open Go.ChangeShapes Go.WideShapes Go.ChangeAt Go.RowKit Go.Joins
set_option linter.unusedVariables false
set_option linter.unusedSimpArgs false

theorem str_ne {s : ByteArray} (h : 0 < s.size) : s.toList.isEmpty = false := by
  rw [ByteArray.toList_eq]
  obtain ⟨⟨l⟩⟩ := s
  cases l with
  | nil => exact absurd h (by decide)
  | cons a l => rfl

set_option maxRecDepth 100000 in
set_option maxHeartbeats 4000000 in
theorem cutParts_yes (k m z : Int) (t : ByteArray) (w : World) (hmay : mayB (k, m, z) = true) (ht : t.size ≤ 2000) :
    Calls Tryd.prog 18 #[.agg #[.int .i64 k, .int .i64 m, .int .i64 z], .string t] w fun e w' => ∃ v, e = .returned (.tuple #[v, .int .i64 0]) ∧ StrsIn w' v (partsOf (k * z).toNat t) ∧ Below w.heap.size w w' := by
  obtain ⟨i0, hi, hz0, hz1, hz2⟩ := info_parts infoStr
  obtain ⟨hb, h0, h1, h2, hsz⟩ := box3_facts w (.int .i64 k) (.int .i64 m) (.int .i64 z) 31
  obtain ⟨lg, hlg, hlg1, hlg2, k1, k8, m0, m6, z1, z120⟩ := lg_facts hmay
  rw [hlg, Int.toNat_natCast]
  obtain ⟨L, hL⟩ : ∃ L, L = partsOf lg t := ⟨_, rfl⟩
  rw [← hL]
  have HL := Lib.hid hL
  have d1 : decide (2000 < (t.size : Int)) = false := by simp; omega
  clear hL
  go_enter Tryd.func18, Tryd.ntmps18
  go_wp2_with fail
  refine (may_any k m z _).mono ?_
  rintro e W ⟨rfl, hb1⟩
  rw [hmay]
  have h0 := below_cellj h0 hsz hb1
  have h2 := below_cellj h2 hsz hb1
  have hlt0 : w.heap.size < W.heap.size := by have := hb1.size; omega
  have hbw := hb.trans (hb1.mono hb.size)
  generalize hB0 : w.heap.size = B0 at h0 h2 hlt0
  clear h1 hsz hb hb1 hmay
  go_wp2_with fail
  go_loopw [1, 6] (fun x l wr => ∃ (s : ByteArray) (L' : List ByteArray), x = .string s ∧ wr.ownsRow W.heap.size 9 1 l L'.length (L'.map Value.string) ∧ Hid (L' ++ partsOf lg s = L) ∧ s.size ≤ 2000 ∧ L'.length + s.size ≤ 2000 ∧ Below W.heap.size W wr) (fun x _ _ => match x with | .string s => s.size | _ => 0)
  case atStart => exact ⟨t, [], rfl, World.ownsRow_nil _ _ _ _, by rw [Hid, List.nil_append, HL.out], by omega, by simp; omega, Below.refl _ _⟩
  case round =>
    obtain ⟨s, L', rfl, hown, HA, hs, hla, hwr⟩ := hrel
    have g0 := below_celllt h0 hlt0 hwr
    have g2 := below_celllt h2 hlt0 hwr
    by_cases hlt : 0 < s.size
    · have hne := str_ne hlt
      by_cases hmx : s.size ≤ lg
      · have hstep : partsOf lg s = s :: [] := by
          rw [partsOf_step hlt hlg1, show min s.size lg = s.size by omega, partsOf_end (by rw [ByteArray.size_extract]; omega), ByteArray.extract_zero_size]
        have HS := Lib.hid hstep
        clear hstep
        go_wp2_with fail
        go_region_held3 (fun w' => AnyW w') (exact anyW _)
          ((refine step_append_lies _ (by rfl) _ _ _ (by rfl) W.heap.size 9 i0 _ 1 16 Tryd.underlying23 hi hz0 hz1 hz2 rfl (by decide) _ _ _ (by rfl) ((hown.alloc _).drew) ⟨wr.heap.size, 0, none⟩ 1 1 [.string s] (by rfl) (by rfl) (cell_one_drew _ _ _) (by simp [Value.oneCell']) (by omega) (by unfold maxLen; omega) (by omega) (by have := hwr.size; simp; omega) (wr.heap.size + 1) (by simp) ?_; intro gg cap w1 hown' hgrow hat hltg))
        all_goals
          have hbx := append_below_drew hwr hown hgrow
          clear hown hgrow hwr g0 g2 hat hltg
          go_wp2_with fail
          go_roundw
          case rel =>
            refine ⟨_, L' ++ [s], rfl, by rw [strs_snoc, List.length_append]; exact hown', ?_, by simp, by simp; omega, hbx⟩
            have := HA.out
            rw [HS.out] at this
            rw [Hid, partsOf_end (by simp), List.append_nil]; exact this
          case measure => simp; omega
      · have hstep : partsOf lg s = s.extract 0 lg :: partsOf lg (s.extract lg s.size) := by
          rw [partsOf_step hlt hlg1, show min s.size lg = lg by omega]
        have hsz2 : (s.extract lg s.size).size = s.size - lg := by rw [ByteArray.size_extract]; omega
        have HS := Lib.hid hstep
        have hi1 : (0 : Int) ≤ (lg : Int) := by omega
        have hi2 : (lg : Int) ≤ (s.size : Int) := by omega
        have HZ := Lib.hid hsz2
        clear hstep hsz2
        go_wp2_with fail
        go_region_held3 (fun w' => AnyW w') (exact anyW _)
          ((refine step_append_lies _ (by rfl) _ _ _ (by rfl) W.heap.size 9 i0 _ 1 16 Tryd.underlying23 hi hz0 hz1 hz2 rfl (by decide) _ _ _ (by rfl) ((hown.alloc _).drew) ⟨wr.heap.size, 0, none⟩ 1 1 [.string (s.extract 0 lg)] (by rfl) (by rfl) (cell_one_drew _ _ _) (by simp [Value.oneCell']) (by omega) (by unfold maxLen; omega) (by omega) (by have := hwr.size; simp; omega) (wr.heap.size + 1) (by simp) ?_; intro gg cap w1 hown' hgrow hat hltg))
        all_goals
          have hbx := append_below_drew hwr hown hgrow
          clear hown hgrow hwr g0 g2 hat hltg
          go_wp2_with fail
          go_roundw
          case rel =>
            refine ⟨_, L' ++ [s.extract 0 lg], rfl, by rw [strs_snoc, List.length_append]; exact hown', ?_, by have := HZ.out; omega, by have := HZ.out; simp; omega, hbx⟩
            have := HA.out
            rw [HS.out] at this
            rw [Hid, List.append_assoc]; exact this
          case measure => have := HZ.out; simp; omega
    · have hs0 : s.size = 0 := by omega
      obtain rfl : s = ByteArray.empty := by
        obtain ⟨⟨l⟩⟩ := s
        have : l = [] := by simpa [ByteArray.size] using hs0
        subst this; rfl
      go_wp2_with fail
      go_ret2
      refine ⟨_, rfl, ?_, hbw.trans (hwr.mono hbw.size)⟩
      have := HA.out
      rw [partsOf_end (by rfl), List.append_nil] at this
      subst this
      exact RowIs.of_own hown
end Go.Proofs.YtkfmkbmlhhdbpaaDoor
