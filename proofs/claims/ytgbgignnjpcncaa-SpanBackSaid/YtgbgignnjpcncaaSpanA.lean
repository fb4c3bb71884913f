/- Small walks under the laws of spans: whether the ask is too much, whether two lists of parts are alike. -/
import Derived.Test.YtgbgignnjpcncaaShape
import Derived.Test.YtgbgignnjpcncaaAsk8
import Derived.BigQuiet
import Derived.BigRegion
namespace Go.Proofs.Ytgbgignnjpcncaa
open Go.ChangeShapes Go.WideShapes Go.ChangeAt Go.RowKit Go.Joins
set_option linter.unusedVariables false
set_option linter.unusedSimpArgs false

set_option maxRecDepth 100000 in
set_option maxHeartbeats 400000 in
theorem num8_any (n : Int) (w : World) :
    Calls Try.prog 13 #[.int .i64 n] w fun e w' => e = .returned (.int .i64 n) ∧ w = w' := by
  go_enter Try.func13, Try.ntmps13
  go_wp2
  go_ret
  exact ⟨rfl, rfl⟩

/-- What Heavy of silolaw8 comes to. -/
def HeavyOut8 (S : List T3) (L : List ByteArray) (bs : List Bool) (Ps : List T3) (w : World) (e : Ending) (w' : World) : Prop := ∃ b : Bool, (b = false → total L ≤ 4000 ∧ bs.length ≤ 100 ∧ S.length ≤ 50 ∧ Ps.length ≤ 200) ∧ e = .returned (.bool b) ∧ Below w.heap.size w w'

theorem box7_facts (w : World) (a b c d e f g : Value) (T : TypeId) :
    Below w.heap.size w (w.alloc (.cells #[a, b, c, d, e, f, g] T)) ∧ (w.alloc (.cells #[a, b, c, d, e, f, g] T)).cell? ⟨w.heap.size, 0, none⟩ = some a ∧ (w.alloc (.cells #[a, b, c, d, e, f, g] T)).cell? ⟨w.heap.size, 1, none⟩ = some b ∧ (w.alloc (.cells #[a, b, c, d, e, f, g] T)).cell? ⟨w.heap.size, 2, none⟩ = some c ∧
      (w.alloc (.cells #[a, b, c, d, e, f, g] T)).cell? ⟨w.heap.size, 3, none⟩ = some d ∧ (w.alloc (.cells #[a, b, c, d, e, f, g] T)).cell? ⟨w.heap.size, 4, none⟩ = some e ∧ (w.alloc (.cells #[a, b, c, d, e, f, g] T)).cell? ⟨w.heap.size, 5, none⟩ = some f ∧ (w.alloc (.cells #[a, b, c, d, e, f, g] T)).cell? ⟨w.heap.size, 6, none⟩ = some g ∧
      (w.alloc (.cells #[a, b, c, d, e, f, g] T)).heap.size = w.heap.size + 1 :=
  ⟨(Below.refl _ _).alloc (Nat.le_refl _) _, by simp [go_sem], by simp [go_sem], by simp [go_sem], by simp [go_sem], by simp [go_sem], by simp [go_sem], by simp [go_sem], by simp⟩

set_option maxRecDepth 100000 in
set_option maxHeartbeats 1000000 in
theorem heavy8_any {c0 c1 c2 c6 : Value} {N A B : Int} {S : List T3} {L : List ByteArray} {Bs : List Bool} {Ps : List T3} {w : World} (q : Ask8 w c0 c1 c2 c6 N A B S L Bs Ps) :
    Calls Try.prog 7 #[.agg #[c0, c1, c2, .int .i64 N, .int .i64 A, .int .i64 B, c6]] w (HeavyOut8 S L Bs Ps w) := by
  have hF := box7_facts w c0 c1 c2 (.int .i64 N) (.int .i64 A) (.int .i64 B) c6 29
  have hT := q.hL.below hF.1
  have hT0 := q.hS.below hF.1
  have hT2 := q.hB.below hF.1
  have hT3 := q.hS2
  have hp2 := q.hP2
  obtain ⟨A6, k6, rfl⟩ := q.hP.len
  clear q
  have HT := Lib.hid hT
  have HT0 := Lib.hid hT0
  have HT2 := Lib.hid hT2
  clear hT hT0 hT2
  go_enter Try.func7, Try.ntmps7
  obtain ⟨hbel, hc0, hc1, hc2, hc3, hc4, hc5, hc6, hsz⟩ := hF
  go_wp2_with fail
  refine (heavy4_any _ _ _ S L Bs _ HT0.out HT.out HT2.out hT3).mono ?_
  rintro e w' ⟨b, hb, rfl, hb1⟩
  have hc6' := below_cellj hc6 hsz hb1
  have hx := hbel.trans (hb1.mono hbel.size)
  clear hb1
  have HB := Lib.hid hb
  clear hb
  cases b
  all_goals
    go_wp2_with fail
    go_ret
    refine ⟨_, ?_, rfl, hx⟩
    intro hb
    have := HB.out
    simp at hb this
    try exact ⟨this.1, this.2.1, this.2.2, by omega⟩

theorem equalPart (a b c : Int) (w : World) : (Op.equalIn 10000 54 (.agg #[.int .i64 a, .int .i64 b, .int .i64 c]) (.agg #[.int .i64 a, .int .i64 b, .int .i64 c])).run Try.prog w = .ok true w := by
  have uP := Try.underlying54
  have u3 := Try.underlying3
  have a3 := Try.isAgg3
  have z3 := Try.sizeOf3
  have hS : Try.prog.underlying 54 = some (.struct (Try.prog.fieldsOf 54)) := by kernel_rfl
  have hp : Try.prog.stoodInHeld 54 = false := by kernel_rfl
  rw [show (10000 : Nat) = 9999 + 1 from rfl, run_equalIn_agg w 9999 54 _ _ hS hp]
  simp only [Program.fieldsOf, uP]
  go_simp
theorem guardPart : Try.prog.eqGuardType Try.prog.depth 54 = false := by kernel_rfl

set_option maxRecDepth 100000 in
set_option maxHeartbeats 1000000 in
theorem eqParts_yes (va vb : Value) (l : List T3) (w : World) (ha : ThreesIn w va l) (hb : ThreesIn w vb l) (hm : l.length ≤ 9000000000000000000) :
    Calls Try.prog 14 #[va, vb] w fun e w' => e = .returned (.bool true) ∧ Below w.heap.size w w' := by
  have HA := Lib.hid ha
  have HB := Lib.hid hb
  obtain ⟨Aa, ka, rfl⟩ := ha.len
  obtain ⟨Ab, kb, rfl⟩ := hb.len
  clear ha hb
  go_enter Try.func14, Try.ntmps14
  go_wp2_with fail
  go_loopw [5] (fun i wr => ∃ k : Nat, i = .int .i64 k ∧ k ≤ l.length ∧ Below w.heap.size w wr) (fun i _ => l.length - (intOf i).toNat)
  case atStart => exact ⟨0, rfl, by omega, Below.refl _ _⟩
  case round =>
    obtain ⟨k, rfl, hk, hwr⟩ := hrel
    by_cases hlt : k < l.length
    · obtain ⟨ba, oa, ca, ea, s, hs, a0, a1, a2⟩ := (HA.out.below hwr).at_ hlt
      obtain ⟨bb, ob, cb, eb, s', hs', b0, b1, b2⟩ := (HB.out.below hwr).at_ hlt
      rw [hs] at hs'
      cases hs'
      cases ea
      cases eb
      have hE := equalPart s.1 s.2.1 s.2.2
      have hG := guardPart
      go_wp2_with fail
      go_quiet (fail)
      all_goals
        go_wp2_with fail
        go_roundw
        case rel => exact ⟨k + 1, by go_num, by omega, below_drewN hwr _⟩
        case measure => simp [intOf]; omega
    · go_wp2_with fail
      go_ret
      exact ⟨rfl, hwr⟩
end Go.Proofs.Ytgbgignnjpcncaa
