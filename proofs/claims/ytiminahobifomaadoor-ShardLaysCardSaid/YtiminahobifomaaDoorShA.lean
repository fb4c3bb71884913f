/- Numbers as bytes, the highest first; which shards may be; shard.May, Sized, Count, walked. -/
import Derived.Test.YtiminahobifomaaDoorCheck
import Derived.Test.YtiminahobifomaaDoorBytes8
import Derived.Test.YtiminahobifomaaDoorStrs
import Derived.Test.YtiminahobifomaaDoorLaneC
import Derived.Test.YtiminahobifomaaDoorTextRow
import Derived.Test.YtiminahobifomaaDoorKept
namespace Go.Proofs.YtiminahobifomaaDoor
open Go.ChangeShapes Go.WideShapes Go.ChangeAt Go.RowKit Go.Joins
set_option linter.unusedVariables false
set_option linter.unusedSimpArgs false

/-- A number's bytes, the highest first. -/
def beL (size n : Nat) : List Nat := (List.range size).map fun j => n / 2 ^ (8 * (size - 1 - j)) % 256
theorem beL_len (size n : Nat) : (beL size n).length = size := by simp [beL]
theorem beL_lt (size n : Nat) : ∀ b ∈ beL size n, b < 256 := by
  intro b hb
  obtain ⟨j, _, rfl⟩ := List.mem_map.1 hb
  exact Nat.mod_lt _ (by decide)
theorem beL_take {size n j : Nat} (h : j < size) : (beL size n).take (j + 1) = (beL size n).take j ++ [n / 2 ^ (8 * (size - 1 - j)) % 256] := by
  rw [List.take_succ_eq_append_getElem (by rw [beL_len]; exact h)]
  simp [beL]
/-- The number that bytes are. -/
def numB (l : List Nat) : Nat := l.foldl (fun n b => n * 256 + b) 0
theorem numB_snoc (l : List Nat) (b : Nat) : numB (l ++ [b]) = numB l * 256 + b := by simp [numB]
theorem numB_from : ∀ (l : List Nat) (n : Nat), (∀ b ∈ l, b < 256) → l.foldl (fun n b => n * 256 + b) n < (n + 1) * 256 ^ l.length
  | [], n, _ => by simp
  | b :: l, n, h => by
    have h1 := numB_from l (n * 256 + b) (fun c hc => h c (List.mem_cons_of_mem _ hc))
    have h2 := h b (List.mem_cons_self ..)
    rw [List.foldl_cons, List.length_cons, Nat.pow_succ]
    refine Nat.lt_of_lt_of_le h1 ?_
    rw [Nat.mul_comm (256 ^ l.length) 256, ← Nat.mul_assoc]
    exact Nat.mul_le_mul_right _ (by omega)
theorem numB_lt {l : List Nat} (h : ∀ b ∈ l, b < 256) : numB l < 256 ^ l.length := by
  have := numB_from l 0 h
  simpa [numB] using this

/-- Which shards may be. -/
def shardB (st ix g : Int) (t : ByteArray) : Bool := decide (0 ≤ st ∧ st ≤ 1073741824 ∧ 0 ≤ g ∧ g ≤ 1073741824 ∧ 0 ≤ ix ∧ ix < 14 ∧ 1 ≤ (t.size : Int) ∧ (t.size : Int) ≤ 120)
theorem box4_facts (w : World) (a b c d : Value) (T : TypeId) :
    Below w.heap.size w (w.alloc (.cells #[a, b, c, d] T)) ∧ (w.alloc (.cells #[a, b, c, d] T)).cell? ⟨w.heap.size, 0, none⟩ = some a ∧ (w.alloc (.cells #[a, b, c, d] T)).cell? ⟨w.heap.size, 1, none⟩ = some b ∧ (w.alloc (.cells #[a, b, c, d] T)).cell? ⟨w.heap.size, 2, none⟩ = some c ∧ (w.alloc (.cells #[a, b, c, d] T)).cell? ⟨w.heap.size, 3, none⟩ = some d :=
  ⟨(Below.refl _ _).alloc (Nat.le_refl _) _, by simp [go_sem], by simp [go_sem], by simp [go_sem], by simp [go_sem]⟩

set_option maxRecDepth 100000 in
set_option maxHeartbeats 2000000 in
theorem shMay_any (st ix g : Int) (t : ByteArray) (b : Bool) (hb : shardB st ix g t = b) (w : World) :
    Calls Tryd.prog 20 #[.agg #[.int .i64 st, .int .i64 ix, .int .i64 g, .string t]] w fun e w' => e = .returned (.bool b) ∧ Below w.heap.size w w' := by
  obtain ⟨hbe, h0, h1, h2, h3⟩ := box4_facts w (.int .i64 st) (.int .i64 ix) (.int .i64 g) (.string t) 28
  obtain ⟨n, hn⟩ : ∃ n : Int, n = (t.size : Int) := ⟨_, rfl⟩
  have HB := Lib.hid hb
  have HBE := Lib.hid hbe
  clear hb hbe hn
  go_enter Tryd.func20, Tryd.ntmps20
  go_wp2
  all_goals
    go_ret
    refine ⟨?_, HBE.out⟩
    have hb := HB.out
    clear HB HBE h0 h1 h2 h3
    rw [← hb]
    first
      | (rw [show shardB st ix g t = false from decide_eq_false (by omega)]; first | done | rfl)
      | (rw [show shardB st ix g t = true from decide_eq_true (by omega)]; first | done | rfl)
      | (rw [show shardB st ix g t = decide ((t.size : Int) ≤ 120) from decide_eq_decide.2 ⟨fun h => by omega, fun h => by omega⟩]; first | done | rfl)

/-- How many sectors a text takes. -/
def secN (n : Nat) : Nat := (15 + n + 8 + 63) / 64

set_option maxRecDepth 100000 in
theorem sized_any (n : Nat) (w : World) (hn : n ≤ 1000000) :
    Calls Tryd.prog 22 #[.int .i64 (n : Int)] w fun e w' => e = .returned (.int .i64 (secN n : Int)) ∧ w = w' := by
  have w1 : IntKind.i64.wrap (15 + (n : Int)) = 15 + (n : Int) := IntWalk.i64_in _ (by omega)
  have w2 : IntKind.i64.wrap (15 + (n : Int) + 8) = 15 + (n : Int) + 8 := IntWalk.i64_in _ (by omega)
  have w3 : IntKind.i64.wrap (15 + (n : Int) + 8 + 64) = 15 + (n : Int) + 8 + 64 := IntWalk.i64_in _ (by omega)
  have w4 : IntKind.i64.wrap (15 + (n : Int) + 8 + 64 - 1) = 15 + (n : Int) + 8 + 64 - 1 := IntWalk.i64_in _ (by omega)
  have w5 : (15 + (n : Int) + 8 + 64 - 1).tdiv 64 = (secN n : Int) := by rw [Int.tdiv_eq_ediv_of_nonneg (by omega), secN]; omega
  have w6 : IntKind.i64.wrap (secN n : Int) = (secN n : Int) := IntWalk.i64_in _ (by unfold secN; omega)
  generalize secN n = q at *
  go_enter Tryd.func22, Tryd.ntmps22
  go_wp2
  go_ret
  exact ⟨rfl, rfl⟩

set_option maxRecDepth 100000 in
theorem count_no (n : Int) (w : World) (h : n < 1 ∨ 120 < n) :
    Calls Tryd.prog 16 #[.int .i64 n] w fun e w' => e = .returned (.tuple #[.int .i64 0, .int .i64 1]) ∧ w = w' := by
  go_enter Tryd.func16, Tryd.ntmps16
  go_wp2_with fail
  all_goals
    first
      | (exfalso; omega)
      | (go_ret2; exact ⟨rfl, rfl⟩)

set_option maxRecDepth 100000 in
theorem count_yes (n : Nat) (w : World) (h1 : 1 ≤ n) (h2 : n ≤ 120) :
    Calls Tryd.prog 16 #[.int .i64 (n : Int)] w fun e w' => e = .returned (.tuple #[.int .i64 (secN n : Int), .int .i64 0]) ∧ w = w' := by
  have d1 : decide ((n : Int) < 1) = false := decide_eq_false (by omega)
  have d2 : decide ((120 : Int) < (n : Int)) = false := decide_eq_false (by omega)
  go_enter Tryd.func16, Tryd.ntmps16
  go_wp2_with (first | (go_at_call 22; refine (sized_any n _ (by omega)).mono ?_; rintro e w' ⟨rfl, rfl⟩))
  all_goals
    first
      | (exfalso; omega)
      | (go_ret2; exact ⟨rfl, rfl⟩)
end Go.Proofs.YtiminahobifomaaDoor
