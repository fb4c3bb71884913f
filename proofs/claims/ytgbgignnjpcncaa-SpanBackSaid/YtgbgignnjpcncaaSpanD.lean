/- Where bytes lie, asked of anything: the page's answer, or refused. -/
import Derived.Test.YtgbgignnjpcncaaSpanC
namespace Go.Proofs.Ytgbgignnjpcncaa
open Go.ChangeShapes Go.WideShapes Go.ChangeAt Go.RowKit Go.Joins
set_option linter.unusedVariables false
set_option linter.unusedSimpArgs false

theorem ThreesIn.at_lit {w : World} {g n c : Nat} {l : List T3} (h : ThreesIn w (.slice (some ⟨g, 0, none⟩) n c) l) {k : Nat} (hk : k < l.length) :
    ∃ s, l[k]? = some s ∧ w.cell? ⟨g, k * 3, none⟩ = some (.int .i64 s.1) ∧ w.cell? ⟨g, k * 3 + 1, none⟩ = some (.int .i64 s.2.1) ∧ w.cell? ⟨g, k * 3 + 2, none⟩ = some (.int .i64 s.2.2) := by
  obtain ⟨b, o, c', e, s, h0, h1, h2, h3⟩ := h.at_ hk
  cases e
  exact ⟨s, h0, by simpa using h1, by simpa using h2, by simpa using h3⟩
/-- Whether an ask may be. -/
def spanOk (k m z n frm many : Int) : Bool := mayB (k, m, z) && decide (0 ≤ n ∧ n ≤ 2000) && decide (0 ≤ frm ∧ frm ≤ n) && decide (0 ≤ many)
/-- What it comes to. -/
def spanWant (k m z n frm many : Int) : List T3 := if spanOk k m z n frm many then spanOf (k * z).toNat (endOf n frm many) frm.toNat else []

set_option maxRecDepth 100000 in
set_option maxHeartbeats 1000000 in
theorem parts_no (k m z n frm many : Int) (w : World) (hno : spanOk k m z n frm many = false) :
    Calls Try.prog 9 #[.agg #[.int .i64 k, .int .i64 m, .int .i64 z], .int .i64 n, .int .i64 frm, .int .i64 many] w fun e w' => e = .returned (.tuple #[.slice none 0 0, .int .i64 1]) ∧ Below w.heap.size w w' := by
  obtain ⟨hb, h0, h1, h2, hsz⟩ := box3_facts w (.int .i64 k) (.int .i64 m) (.int .i64 z) 32
  go_enter Try.func9, Try.ntmps9
  go_wp2_with fail
  refine (may_any k m z _).mono ?_
  rintro e w' ⟨rfl, hb1⟩
  have hb2 := hb.trans (hb1.mono hb.size)
  clear hb hb1 h0 h1 h2 hsz
  simp only [spanOk, Bool.and_eq_false_iff, decide_eq_false_iff_not] at hno
  cases hmb : mayB (k, m, z)
  · go_wp2_with fail
    go_ret2
    exact ⟨rfl, hb2⟩
  · rw [hmb] at hno
    have hn : ¬ (0 ≤ n ∧ n ≤ 2000) ∨ ¬ (0 ≤ frm ∧ frm ≤ n) ∨ ¬ 0 ≤ many := by
      rcases hno with ((h | h) | h) | h
      · cases h
      · exact Or.inl h
      · exact Or.inr (Or.inl h)
      · exact Or.inr (Or.inr h)
    clear hno hmb
    by_cases c1 : n < 0
    · have : decide (n < 0) = true := by simp; omega
      go_wp2_with fail
      go_ret2
      exact ⟨rfl, hb2⟩
    have d1 : decide (n < 0) = false := by simp; omega
    by_cases c2 : 2000 < n
    · have : decide (2000 < n) = true := by simp; omega
      go_wp2_with fail
      go_ret2
      exact ⟨rfl, hb2⟩
    have d2 : decide (2000 < n) = false := by simp; omega
    by_cases c3 : frm < 0
    · have : decide (frm < 0) = true := by simp; omega
      go_wp2_with fail
      go_ret2
      exact ⟨rfl, hb2⟩
    have d3 : decide (frm < 0) = false := by simp; omega
    by_cases c4 : n < frm
    · have : decide (n < frm) = true := by simp; omega
      go_wp2_with fail
      go_ret2
      exact ⟨rfl, hb2⟩
    have d4 : decide (n < frm) = false := by simp; omega
    have : decide (many < 0) = true := by simp; omega
    go_wp2_with fail
    go_ret2
    exact ⟨rfl, hb2⟩

theorem parts_any (k m z n frm many : Int) (w : World) (hm1 : many ≤ 9223372036854775807) :
    Calls Try.prog 9 #[.agg #[.int .i64 k, .int .i64 m, .int .i64 z], .int .i64 n, .int .i64 frm, .int .i64 many] w fun e w' => ∃ v, e = .returned (.tuple #[v, .int .i64 (if spanOk k m z n frm many then 0 else 1)]) ∧ ThreesIn w' v (spanWant k m z n frm many) ∧ Below w.heap.size w w' := by
  unfold spanWant
  cases hok : spanOk k m z n frm many
  · refine (parts_no k m z n frm many w hok).mono ?_
    rintro e w' ⟨rfl, hb⟩
    exact ⟨_, rfl, RowIs.nil _ _ _ _, hb⟩
  · have hok' := hok
    simp only [spanOk, Bool.and_eq_true, decide_eq_true_eq] at hok'
    obtain ⟨⟨⟨a1, a2⟩, a3⟩, a4⟩ := hok'
    exact (parts_yes k m z n frm many w a1 a2.1 a2.2 a3.1 a3.2 a4 hm1).mono fun e w' h => by simpa using h
end Go.Proofs.Ytgbgignnjpcncaa
