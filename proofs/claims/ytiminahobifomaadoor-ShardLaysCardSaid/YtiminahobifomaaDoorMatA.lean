/- Matrices: what may be one; the code's way and the page's, walked. -/
import Derived.Test.YtiminahobifomaaDoorLaneE
import Derived.Test.YtiminahobifomaaDoorLaneF
import Derived.Test.YtiminahobifomaaDoorPowTwo
namespace Go.Proofs.YtiminahobifomaaDoor
open Go.ChangeShapes Go.WideShapes Go.ChangeAt Go.RowKit Go.Joins
set_option linter.unusedVariables false
set_option linter.unusedSimpArgs false

/-- A slice value of these bytes. -/
def BytesV (w : World) (v : Value) (ns : List Nat) : Prop := RowIs w v ns.length 1 (ns.map fun n : Nat => Value.int .u8 (n : Int)) ∧ ∀ n ∈ ns, n < 256
theorem BytesV.below {w w' : World} {v : Value} {ns : List Nat} (h : BytesV w v ns) (hb : Below w.heap.size w w') : BytesV w' v ns := ⟨h.1.below hb, h.2⟩
theorem BytesV.shape {w : World} {v : Value} {ns : List Nat} (h : BytesV w v ns) : ∃ A c, v = .slice A ns.length c := by
  obtain ⟨⟨_, A, c, rfl, _⟩, _⟩ := h
  exact ⟨A, c, rfl⟩
theorem BytesV.at_ {w : World} {A : Option Addr} {c n : Nat} {ns : List Nat} (h : BytesV w (.slice A n c) ns) {k : Nat} (hk : k < ns.length) :
    ∃ b o, A = some ⟨b, o, none⟩ ∧ b < w.heap.size ∧ w.cell? ⟨b, o + k, none⟩ = some (.int .u8 ((ns.getD k 0 : Nat) : Int)) := by
  obtain ⟨b, o, c', e, hlt, hc⟩ := RowIs.at_ h.1 hk
  cases e
  refine ⟨b, o, rfl, hlt, ?_⟩
  obtain ⟨u, h1, h2⟩ := hc 0 (by omega)
  simp [hk] at h1
  rw [Nat.mul_one, Nat.add_zero] at h2
  rw [h2, ← h1]
  simp [List.getD, hk]
theorem BytesV.lt {w : World} {v : Value} {ns : List Nat} (h : BytesV w v ns) (k : Nat) : ns.getD k 0 < 256 := by
  by_cases hk : k < ns.length
  · exact getD_lt h.2 hk
  · simp [List.getD, hk]
theorem BytesV.of_blk {w : World} {B c : Nat} {ns : List Nat} (h : BytesBlk w B ns) (hB : B < w.heap.size) : BytesV w (.slice (some ⟨B, 0, none⟩) ns.length c) ns := by
  refine ⟨⟨by simp, _, _, rfl, fun _ => ⟨B, 0, rfl, hB, fun j u hj => ?_⟩⟩, fun n hn => ?_⟩
  · have hl : j < ns.length := by simpa using (List.getElem?_eq_some_iff.1 hj).1
    have := (h j hl).2.1
    rw [Nat.zero_add, this, ← hj]
    simp [List.getD, hl]
  · obtain ⟨i, hi, rfl⟩ := List.getElem_of_mem hn
    have := (h i hi).1
    rwa [← List.getElem_eq_getD (h := hi)] at this

/-- A matrix's value. -/
def matV (R C : Int) (v : Value) : Value := .agg #[.int .i64 R, .int .i64 C, v]
/-- Whether a matrix may be. -/
def mayM (R C : Int) (n : Nat) : Bool := decide (1 ≤ R ∧ R ≤ 16 ∧ 1 ≤ C ∧ C ≤ 16 ∧ (n : Int) = R * C)
theorem mayM_yes {R C : Int} {n : Nat} (h : mayM R C n = true) : ∃ r c : Nat, R = (r : Int) ∧ C = (c : Int) ∧ 1 ≤ r ∧ r ≤ 16 ∧ 1 ≤ c ∧ c ≤ 16 ∧ n = r * c := by
  obtain ⟨h1, h2, h3, h4, h5⟩ := of_decide_eq_true h
  obtain ⟨r, rfl⟩ : ∃ r : Nat, R = r := ⟨R.toNat, by omega⟩
  obtain ⟨c, rfl⟩ : ∃ c : Nat, C = c := ⟨C.toNat, by omega⟩
  exact ⟨r, c, rfl, rfl, by omega, by omega, by omega, by omega, by exact_mod_cast h5⟩
theorem mul_small {R C : Int} (h1 : 1 ≤ R) (h2 : R ≤ 16) (h3 : 1 ≤ C) (h4 : C ≤ 16) : 1 ≤ R * C ∧ R * C ≤ 256 := by
  obtain ⟨r, rfl⟩ : ∃ r : Nat, R = r := ⟨R.toNat, by omega⟩
  obtain ⟨c, rfl⟩ : ∃ c : Nat, C = c := ⟨C.toNat, by omega⟩
  have a : 1 * 1 ≤ r * c := Nat.mul_le_mul (by omega) (by omega)
  have b : r * c ≤ 16 * 16 := Nat.mul_le_mul (by omega) (by omega)
  have e : ((r * c : Nat) : Int) = (r : Int) * (c : Int) := by simp
  omega

set_option maxRecDepth 100000 in
set_option maxHeartbeats 400000 in
theorem between3_any (n : Int) (b : Bool) (hb : decide (1 ≤ n ∧ n ≤ 16) = b) (w : World) :
    Calls Tryd.prog 17 #[.int .i64 n, .int .i64 1, .int .i64 16] w fun e w' => e = .returned (.bool b) ∧ w = w' := by
  subst hb
  by_cases h1 : 1 ≤ n
  · by_cases h2 : n ≤ 16
    · have d1 : decide (1 ≤ n) = true := decide_eq_true h1
      have d2 : decide (n ≤ 16) = true := decide_eq_true h2
      have H := Lib.hid (decide_eq_true (And.intro h1 h2))
      clear h1 h2
      go_enter Tryd.func17, Tryd.ntmps17
      go_wp2_with fail
      go_ret
      exact ⟨by rw [H.out]; rfl, rfl⟩
    · have d1 : decide (1 ≤ n) = true := decide_eq_true h1
      have d2 : decide (n ≤ 16) = false := decide_eq_false h2
      have H := Lib.hid (decide_eq_false (fun h : 1 ≤ n ∧ n ≤ 16 => h2 h.2))
      clear h1 h2
      go_enter Tryd.func17, Tryd.ntmps17
      go_wp2_with fail
      go_ret
      exact ⟨by rw [H.out]; rfl, rfl⟩
  · have d1 : decide (1 ≤ n) = false := decide_eq_false h1
    have H := Lib.hid (decide_eq_false (fun h : 1 ≤ n ∧ n ≤ 16 => h1 h.1))
    clear h1
    go_enter Tryd.func17, Tryd.ntmps17
    go_wp2_with fail
    go_ret
    exact ⟨by rw [H.out]; rfl, rfl⟩

end Go.Proofs.YtiminahobifomaaDoor
