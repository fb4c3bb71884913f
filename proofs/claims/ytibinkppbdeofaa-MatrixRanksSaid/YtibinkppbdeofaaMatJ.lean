/- matrix.turn, walked. -/
import Derived.Test.YtibinkppbdeofaaMatF
import Derived.Laws.IdiomCopy
import Derived.Lib.SlBuf
import Derived.OrdersHeld
import Derived.Deep.RegionHeld
namespace Go.Proofs.Ytibinkppbdeofaa
open Go.ChangeShapes Go.WideShapes Go.ChangeAt Go.RowKit Go.Joins
set_option linter.unusedVariables false
set_option linter.unusedSimpArgs false

theorem swapK_far (x y n : Nat) (l : List Nat) (j : Nat) (h1 : j < x ∨ x + n ≤ j) (h2 : j < y ∨ y + n ≤ j) : (swapK x y n l).getD j 0 = l.getD j 0 := by
  induction n with
  | zero => rfl
  | succ n ih => rw [swapK_succ, getD_set_ne (by omega), getD_set_ne (by omega), ih (by omega) (by omega)]
theorem swapK_get {x y n : Nat} {l : List Nat} (hd : x + n ≤ y ∨ y + n ≤ x) (hx : x + n ≤ l.length) (hy : y + n ≤ l.length) : ∀ j, j < n → (swapK x y n l).getD (x + j) 0 = l.getD (y + j) 0 ∧ (swapK x y n l).getD (y + j) 0 = l.getD (x + j) 0 := by
  induction n with
  | zero => intro j hj; omega
  | succ n ih =>
    intro j hj
    have ih := ih (by omega) (by omega) (by omega)
    rw [swapK_succ]
    by_cases h : j = n
    · subst h
      rw [swapK_far x y j l (y + j) (by omega) (by omega), swapK_far x y j l (x + j) (by omega) (by omega)]
      exact ⟨by rw [getD_set_ne (by omega), getD_set_eq (by rw [swapK_length]; omega)], by rw [getD_set_eq (by rw [List.length_set, swapK_length]; omega)]⟩
    · have := ih j (by omega)
      exact ⟨by rw [getD_set_ne (by omega), getD_set_ne (by omega)]; exact this.1, by rw [getD_set_ne (by omega), getD_set_ne (by omega)]; exact this.2⟩
theorem swapK_same (x n : Nat) (l : List Nat) : swapK x x n l = l := by
  induction n with
  | zero => rfl
  | succ n ih => rw [swapK_succ, ih, set_same, set_same]
theorem list_getD_ext {l m : List Nat} (hl : l.length = m.length) (h : ∀ j, j < l.length → l.getD j 0 = m.getD j 0) : l = m := by
  apply List.ext_getElem hl
  intro p h1 h2
  rw [List.getElem_eq_getD (fallback := 0), List.getElem_eq_getD (fallback := 0)]
  exact h p h1

/-- Bytes put from off on. -/
def putL (off : Nat) (cs : List Nat) (l : List Nat) : List Nat := updL (fun j _ => cs.getD j 0) off cs.length l
theorem putL_length (off : Nat) (cs l : List Nat) : (putL off cs l).length = l.length := updL_length _ _ _ _
/-- Two rows put crosswise. -/
theorem put_swap {c i q : Nat} {l : List Nat} (hiq : i ≠ q) (hi : (i + 1) * c ≤ l.length) (hq : (q + 1) * c ≤ l.length) :
    putL (q * c) (rowN l c i) (putL (i * c) (rowN l c q) l) = swapL c i q l := by
  have li := rowN_length hi
  have lq := rowN_length hq
  have hd : i * c + c ≤ q * c ∨ q * c + c ≤ i * c := by
    rcases Nat.lt_or_gt_of_ne hiq with h | h
    · left; have := Nat.mul_le_mul_right c h; rw [Nat.succ_mul] at this; omega
    · right; have := Nat.mul_le_mul_right c h; rw [Nat.succ_mul] at this; omega
  rw [Nat.add_mul, Nat.one_mul] at hi hq
  have hg := swapK_get (x := i * c) (y := q * c) (n := c) hd hi hq
  apply list_getD_ext
  · rw [putL_length, putL_length, swapL, swapK_length]
  · intro j hj
    rw [putL_length, putL_length] at hj
    rw [putL, putL, li, lq, swapL]
    by_cases h1 : i * c ≤ j ∧ j < i * c + c
    · obtain ⟨d, rfl⟩ : ∃ d, j = i * c + d := ⟨j - i * c, by omega⟩
      rw [updL_far _ _ _ _ _ (by omega), updL_get _ _ _ _ _ (by omega) hi, (hg d (by omega)).1, rowN_get (by omega)]
    · by_cases h2 : q * c ≤ j ∧ j < q * c + c
      · obtain ⟨d, rfl⟩ : ∃ d, j = q * c + d := ⟨j - q * c, by omega⟩
        rw [updL_get _ _ _ _ _ (by omega) (by rw [updL_length]; exact hq), (hg d (by omega)).2, rowN_get (by omega)]
      · rw [updL_far _ _ _ _ _ (by omega), updL_far _ _ _ _ _ (by omega), swapK_far _ _ _ _ _ (by omega) (by omega)]

theorem setCells_blk {B : Nat} : ∀ (cs : List Nat) (off : Nat) (w : World) (l : List Nat), BytesBlk w B l → (∀ x ∈ cs, x < 256) → BytesBlk (w.setCells B off (u8s cs)) B (updL (fun j _ => cs.getD j 0) off cs.length l)
  | [], off, w, l, h, _ => h
  | x :: cs, off, w, l, h, hx => by
    have ih := setCells_blk cs (off + 1) (w.setCell ⟨B, off, none⟩ (.int .u8 (x : Int))) (l.set off x) (h.next (hx x (by simp))) (fun y hy => hx y (by simp [hy]))
    have e : updL (fun j _ => (x :: cs).getD j 0) off (x :: cs).length l = updL (fun j _ => cs.getD j 0) (off + 1) cs.length (l.set off x) := by
      have hh : ∀ n, updL (fun j _ => (x :: cs).getD j 0) off (n + 1) l = updL (fun j _ => cs.getD j 0) (off + 1) n (l.set off x) := by
        intro n
        induction n with
        | zero => rfl
        | succ n ih => rw [updL_step, ih, updL_step]; simp [Nat.add_assoc, Nat.add_comm 1 n]
      exact hh cs.length
    rw [e]
    exact ih
theorem setCells_kept {B : Nat} : ∀ (cs : List Value) (off : Nat) (w : World), Kept (fun j => j = B) w (w.setCells B off cs)
  | [], _, _ => Kept.refl _ _
  | v :: r, off, w => ((Kept.refl (fun j => j = B) w).setCell (d := ⟨B, off, none⟩) (fun _ => rfl) v).trans (setCells_kept r (off + 1) _)
/-- The builtin copy, of bytes. -/
theorem copy_run {W : World} {B : Nat} {l cs : List Nat} {off bs os c cap cap' : Nat} (h : BytesBlk W B l) (hoff : off + c ≤ l.length) (hc : cs.length = c)
    (hs : ∀ j, j < c → W.cell? ⟨bs, os + j, none⟩ = some (.int .u8 ((cs.getD j 0 : Nat) : Int))) :
    (Builtin.copy_ #[28, 28] 3 #[.slice (some ⟨B, off, none⟩) c cap, .slice (some ⟨bs, os, none⟩) c cap']).run Try.prog W = .ok (goInt c) (W.setCells B off (u8s cs)) := by
  have := run_copy_cells (P := Try.prog) W 28 28 3 5 B off c cap ⟨bs, os, none⟩ c cap' (u8s cs) Try.underlying28 (by kernel_rfl) (by rw [u8s_length, hc]; exact (Nat.min_self c).symm)
    (fun j v hj => by
      have hl : j < cs.length := by have := (List.getElem?_eq_some_iff.1 hj).1; rwa [u8s_length] at this
      rw [Go.WideShapes.add_plain, hs j (by omega), ← hj]
      simp [u8s, List.getD, hl])
    (fun j hj => by rw [u8s_length] at hj; rw [(h (off + j) (by omega)).2.1]; rfl)
    (fun j hj => by rw [u8s_length] at hj; exact (h (off + j) (by omega)).2.2)
    (fun v hv => by obtain ⟨x, _, rfl⟩ := List.mem_map.1 hv; rfl)
  rw [u8s_length, hc] at this
  exact this
end Go.Proofs.Ytibinkppbdeofaa
