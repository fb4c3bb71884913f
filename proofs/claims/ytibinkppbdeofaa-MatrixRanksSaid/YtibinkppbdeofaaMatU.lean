/- matrix.One and Times as calls; matrix.Mul, walked. -/
import Derived.Test.YtibinkppbdeofaaMatT
namespace Go.Proofs.Ytibinkppbdeofaa
open Go.ChangeShapes Go.WideShapes Go.ChangeAt Go.RowKit Go.Joins
set_option linter.unusedVariables false
set_option linter.unusedSimpArgs false

/-- A matrix that was made: a block of bytes that may be written. -/
def MadeM (w w' : World) (v : Value) (r c : Nat) (ns : List Nat) : Prop :=
  ∃ B, w.heap.size ≤ B ∧ B < w'.heap.size ∧ v = matV (r : Int) (c : Int) (.slice (some ⟨B, 0, none⟩) (r * c) (r * c)) ∧ BytesBlk w' B ns ∧ ns.length = r * c
theorem MadeM.bytes {w w' : World} {v : Value} {r c : Nat} {ns : List Nat} (h : MadeM w w' v r c ns) : ∃ vl, v = matV (r : Int) (c : Int) vl ∧ BytesV w' vl ns := by
  obtain ⟨B, _, hB, rfl, hb, hl⟩ := h
  refine ⟨_, rfl, ?_⟩
  have := BytesV.of_blk (c := r * c) hb hB
  rw [hl] at this
  exact this

theorem one_yes (n : Nat) (h1 : 1 ≤ n) (h2 : n ≤ 16) (w : World) :
    Calls Try.prog 21 #[.int .i64 (n : Int)] w fun e w' => ∃ v, e = .returned (.tuple #[v, .int .i64 0]) ∧ MadeM w w' v n n (oneL n n) ∧ Below w.heap.size w w' :=
  (callsIn_wide.1 (one_in n h1 h2 w)).mono fun e w' ⟨B, h1, h2, h3, h4, h5⟩ => ⟨_, h3, ⟨B, h1, h2, rfl, h4, oneL_length n n⟩, h5⟩

set_option maxRecDepth 100000 in
set_option maxHeartbeats 400000 in
theorem one_no (n : Int) (h : ¬ (1 ≤ n ∧ n ≤ 16)) (w : World) :
    Calls Try.prog 21 #[.int .i64 n] w fun e w' => e = .returned (.tuple #[matV 0 0 (.slice none 0 0), .int .i64 1]) ∧ Below w.heap.size w w' := by
  have HS := Lib.hid (decide_eq_false h)
  have hb := (Below.refl w.heap.size w).alloc (Nat.le_refl _) (.cells #[.int .i64 0, .int .i64 0, .slice none 0 0] 30)
  have HB := Lib.hid hb
  clear h hb
  go_enter Try.func21, Try.ntmps21
  go_wp2_with (first | (go_at_call 46; refine (side_is _ false HS.out _).mono ?_; rintro e w' ⟨rfl, rfl⟩))
  refine bodyPost_ret (v := .tuple #[matV 0 0 (.slice none 0 0), .int .i64 1]) (by simp [results, Try.results21, go_sem, matV, *]) rfl ⟨rfl, ?_⟩
  exact HB.out

theorem times_any (ra ca cb : Nat) (ba oa na ka bb ob nb kb : Nat) (ms bs : List Nat) (w : World)
    (ha : BytesV w (.slice (some ⟨ba, oa, none⟩) na ka) ms) (hb : BytesV w (.slice (some ⟨bb, ob, none⟩) nb kb) bs) (hla : ms.length = ra * ca) (hlb : bs.length = ca * cb)
    (h1 : 1 ≤ ra) (h2 : ra ≤ 16) (h3 : 1 ≤ ca) (h4 : ca ≤ 16) (h5 : 1 ≤ cb) (h6 : cb ≤ 16) (hka : na ≤ ka) (hkb : nb ≤ kb) (hka2 : ka ≤ 9223372036854775807) (hkb2 : kb ≤ 9223372036854775807) :
    Calls Try.prog 45 #[matV (ra : Int) (ca : Int) (.slice (some ⟨ba, oa, none⟩) na ka), matV (ca : Int) (cb : Int) (.slice (some ⟨bb, ob, none⟩) nb kb)] w fun e w' =>
      ∃ v, e = .returned v ∧ MadeM w w' v ra cb (timesL ms bs ra ca cb) ∧ Below w.heap.size w w' :=
  (callsIn_wide.1 (times_in ra ca cb ba oa na ka bb ob nb kb ms bs w ha hb hla hlb h1 h2 h3 h4 h5 h6 hka hkb hka2 hkb2)).mono fun e w' ⟨B, h1, h2, h3, h4, h5⟩ => ⟨_, h3, ⟨B, h1, h2, rfl, h4, timesL_length _ _ _ _ _⟩, h5⟩
end Go.Proofs.Ytibinkppbdeofaa
