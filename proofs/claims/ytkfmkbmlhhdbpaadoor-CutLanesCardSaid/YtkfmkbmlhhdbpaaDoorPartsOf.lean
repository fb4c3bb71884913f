/- A text stripe by stripe: what the page says, as a list; the walk of the page's own. -/
import Derived.Test.YtkfmkbmlhhdbpaaDoorStrRow
import Derived.Deep.RegionHeld3
import Derived.BigQuiet
namespace Go.Proofs.YtkfmkbmlhhdbpaaDoor
open Go.ChangeShapes Go.WideShapes Go.ChangeAt Go.RowKit Go.Joins
set_option linter.unusedVariables false
set_option linter.unusedSimpArgs false

/-- A text's parts of w bytes each, the last one shorter. -/
def partsOf (w : Nat) (t : ByteArray) : List ByteArray :=
  if h : 0 < t.size ∧ 0 < w then t.extract 0 (min t.size w) :: partsOf w (t.extract (min t.size w) t.size) else []
termination_by t.size
decreasing_by rw [ByteArray.size_extract]; omega
theorem partsOf_step {w : Nat} {t : ByteArray} (h : 0 < t.size) (hw : 0 < w) : partsOf w t = t.extract 0 (min t.size w) :: partsOf w (t.extract (min t.size w) t.size) := by
  rw [partsOf, dif_pos ⟨h, hw⟩]
theorem partsOf_end {w : Nat} {t : ByteArray} (h : t.size = 0) : partsOf w t = [] := by
  rw [partsOf, dif_neg (by omega)]
theorem partsOf_length (w : Nat) : ∀ t : ByteArray, (partsOf w t).length ≤ t.size := by
  have h : ∀ (m : Nat) (t : ByteArray), t.size ≤ m → (partsOf w t).length ≤ t.size := by
    intro m
    induction m with
    | zero => intro t ht; rw [partsOf_end (by omega)]; simp
    | succ m ih =>
      intro t ht
      by_cases h0 : 0 < t.size
      · by_cases hw : 0 < w
        · rw [partsOf_step h0 hw, List.length_cons]
          have e : (t.extract (min t.size w) t.size).size = t.size - min t.size w := by rw [ByteArray.size_extract]; omega
          have := ih (t.extract (min t.size w) t.size) (by omega)
          omega
        · rw [partsOf, dif_neg (by omega)]; simp
      · rw [partsOf_end (by omega)]; simp
  intro t
  exact h _ t (Nat.le_refl _)
theorem strs_snoc (l : List ByteArray) (s : ByteArray) : (l ++ [s]).map Value.string = l.map Value.string ++ [.string s] := by simp

theorem cell_one_new (w : World) (a : Value) (t : TypeId) : ∀ j u, [a][j]? = some u → (w.alloc (.cells #[a] t)).cell? ((⟨w.heap.size, 0, none⟩ : Addr).add j) = some u := by
  intro j u hj
  match j, hj with
  | 0, hj => simp at hj; subst hj; simp [Addr.add]
  | j + 1, hj => simp at hj

theorem cell_one_drew (w : World) (a : Value) (t : TypeId) : ∀ j u, [a][j]? = some u → (w.alloc (.cells #[a] t)).drew.cell? ((⟨w.heap.size, 0, none⟩ : Addr).add j) = some u := cell_one_new w a t

/-- What a region of no loads keeps. -/
def AnyW (w : World) : Prop := 0 ≤ w.heap.size
theorem anyW (w : World) : AnyW w := Nat.zero_le _

theorem lg_facts {k m z : Int} (h : mayB (k, m, z) = true) : ∃ lg : Nat, k * z = (lg : Int) ∧ 1 ≤ lg ∧ lg ≤ 960 ∧ 1 ≤ k ∧ k ≤ 8 ∧ 0 ≤ m ∧ m ≤ 6 ∧ 1 ≤ z ∧ z ≤ 120 := by
  simp only [mayB, decide_eq_true_eq] at h
  obtain ⟨k1, k8, m0, m6, z1, z120⟩ := h
  have e1 : 1 * 1 ≤ k * z := Int.mul_le_mul k1 z1 (by omega) (by omega)
  have e2 : k * z ≤ 8 * 120 := Int.mul_le_mul k8 z120 (by omega) (by omega)
  exact ⟨(k * z).toNat, by omega, by omega, by omega, k1, k8, m0, m6, z1, z120⟩

set_option maxRecDepth 100000 in
set_option maxHeartbeats 2000000 in
theorem refParts_yes (k m z : Int) (t : ByteArray) (w : World) (hmay : mayB (k, m, z) = true) (ht : t.size ≤ 2000) :
    Calls Tryd.prog 21 #[.agg #[.int .i64 k, .int .i64 m, .int .i64 z], .string t] w fun e w' => ∃ v, e = .returned v ∧ StrsIn w' v (partsOf (k * z).toNat t) ∧ Below w.heap.size w w' := by
  obtain ⟨i0, hi, hz0, hz1, hz2⟩ := info_parts infoStr
  obtain ⟨hb, h0, h1, h2, hsz⟩ := box3_facts w (.int .i64 k) (.int .i64 m) (.int .i64 z) 31
  obtain ⟨lg, hlg, hlg1, hlg2, k1, k8, m0, m6, z1, z120⟩ := lg_facts hmay
  rw [hlg, Int.toNat_natCast]
  obtain ⟨L, hL⟩ : ∃ L, L = partsOf lg t := ⟨_, rfl⟩
  rw [← hL]
  have HL := Lib.hid hL
  clear hL hmay
  go_enter Tryd.func21, Tryd.ntmps21
  go_wp2_with fail
  generalize w.alloc (.cells #[.int .i64 k, .int .i64 m, .int .i64 z] 31) = W at *
  have hlt0 : w.heap.size < W.heap.size := by omega
  have hbw := hb
  generalize hB0 : w.heap.size = B0 at h0 h2 hlt0
  clear h1 hsz hb
  go_loopw [1, 5] (fun x l wr => ∃ (s : ByteArray) (L' : List ByteArray), x = .string s ∧ wr.ownsRow W.heap.size 9 1 l L'.length (L'.map Value.string) ∧ Hid (L' ++ partsOf lg s = L) ∧ s.size ≤ 2000 ∧ L'.length + s.size ≤ 2000 ∧ Below W.heap.size W wr) (fun x _ _ => match x with | .string s => s.size | _ => 0)
  case atStart => exact ⟨t, [], rfl, World.ownsRow_nil _ _ _ _, by rw [Hid, List.nil_append, HL.out], by omega, by simp; omega, Below.refl _ _⟩
  case round =>
    obtain ⟨s, L', rfl, hown, HA, hs, hla, hwr⟩ := hrel
    have g0 := below_celllt h0 hlt0 hwr
    have g2 := below_celllt h2 hlt0 hwr
    by_cases hlt : 0 < s.size
    · have hdd : decide (0 < (s.size : Int)) = true := by simp; omega
      by_cases hmx : s.size ≤ lg
      · have hstep : partsOf lg s = s :: [] := by
          rw [partsOf_step hlt hlg1, show min s.size lg = s.size by omega, partsOf_end (by rw [ByteArray.size_extract]; omega), ByteArray.extract_zero_size]
        have HS := Lib.hid hstep
        clear hstep
        go_wp2_with (first | (at_builtin; refine wpList_append_own _ rfl _ _ 23 rfl W.heap.size 9 i0 (.string ByteArray.empty) 1 16 Tryd.underlying23 hi hz0 hz1 hz2 rfl (by decide) _ _ _ rfl (hown.alloc _) ⟨wr.heap.size, 0, none⟩ 1 1 [.string s] rfl rfl ?c1 ?c2 ?c3 ?c4 ?c5 ?_) | go_in)
        case c1 => exact cell_one_new _ _ _
        case c2 => intro u hu; simp at hu; subst hu; rfl
        case c3 => unfold maxLen; omega
        case c4 => omega
        case c5 => have := hwr.size; simp; omega
        all_goals
          intro v' w1 hown' hgrow _
          have hbx := append_below hwr hown hgrow
          clear hown hgrow hwr g0 g2
          go_wp2_with fail
          go_roundw
          case rel =>
            refine ⟨_, L' ++ [s], rfl, by rw [strs_snoc, List.length_append]; exact hown', ?_, by simp, by simp; omega, hbx⟩
            have := HA.out
            rw [HS.out] at this
            rw [Hid, partsOf_end (by simp), List.append_nil]; exact this
          case measure => simp; omega
      · have hstep : partsOf lg s = s.extract 0 lg :: partsOf lg (s.extract lg s.size) := by
          rw [partsOf_step hlt hlg1, show min s.size lg = lg by omega]
        have hsz2 : (s.extract lg s.size).size = s.size - lg := by rw [ByteArray.size_extract]; omega
        have HS := Lib.hid hstep
        have HZ := Lib.hid hsz2
        clear hstep hsz2
        go_wp2_with (first | (at_builtin; refine wpList_append_own _ rfl _ _ 23 rfl W.heap.size 9 i0 (.string ByteArray.empty) 1 16 Tryd.underlying23 hi hz0 hz1 hz2 rfl (by decide) _ _ _ rfl (hown.alloc _) ⟨wr.heap.size, 0, none⟩ 1 1 [.string (s.extract 0 lg)] rfl rfl ?c1 ?c2 ?c3 ?c4 ?c5 ?_) | go_in)
        case c1 => exact cell_one_new _ _ _
        case c2 => intro u hu; simp at hu; subst hu; rfl
        case c3 => unfold maxLen; omega
        case c4 => omega
        case c5 => have := hwr.size; simp; omega
        all_goals
          intro v' w1 hown' hgrow _
          have hbx := append_below hwr hown hgrow
          clear hown hgrow hwr g0 g2
          go_wp2_with fail
          go_roundw
          case rel =>
            refine ⟨_, L' ++ [s.extract 0 lg], rfl, by rw [strs_snoc, List.length_append]; exact hown', ?_, by have := HZ.out; omega, by have := HZ.out; simp; omega, hbx⟩
            have := HA.out
            rw [HS.out] at this
            rw [Hid, List.append_assoc]; exact this
          case measure => have := HZ.out; simp; omega
    · have hs0 : s.size = 0 := by omega
      have hdd : decide (0 < (s.size : Int)) = false := by rw [hs0]; rfl
      go_wp2_with fail
      go_ret
      refine ⟨_, rfl, ?_, hbw.trans (hwr.mono hbw.size)⟩
      have := HA.out
      rw [partsOf_end hs0, List.append_nil] at this
      subst this
      exact RowIs.of_own hown
end Go.Proofs.YtkfmkbmlhhdbpaaDoor
