/- Elimination, plainly: what brings a matrix into steps. -/
import Derived.Test.YtibinkppbdeofaaMatZ
namespace Go.Proofs.Ytibinkppbdeofaa
open Go.ChangeShapes Go.WideShapes Go.ChangeAt Go.RowKit Go.Joins
set_option linter.unusedVariables false
set_option linter.unusedSimpArgs false

theorem swapL_length (c i k : Nat) (l : List Nat) : (swapL c i k l).length = l.length := swapK_length _ _ _ _
theorem scaleL_length (c i by_ : Nat) (l : List Nat) : (scaleL c i by_ l).length = l.length := updL_length _ _ _ _
theorem addL_length (c i k by_ : Nat) (l : List Nat) : (addL c i k by_ l).length = l.length := updL_length _ _ _ _

/-- The first row from i on, among n, whose number in column c is not 0; i + n: none. -/
def findP (M : List Nat) (ca c : Nat) : Nat → Nat → Nat
  | i, 0 => i
  | i, n + 1 => if M.getD (i * ca + c) 0 = 0 then findP M ca c (i + 1) n else i
theorem findP_ge (M : List Nat) (ca c : Nat) : ∀ (n i : Nat), i ≤ findP M ca c i n ∧ findP M ca c i n ≤ i + n
  | 0, i => by simp [findP]
  | n + 1, i => by
    unfold findP
    split
    · have := findP_ge M ca c n (i + 1); omega
    · omega
theorem findP_zero (M : List Nat) (ca c : Nat) : ∀ (n i j : Nat), i ≤ j → j < findP M ca c i n → M.getD (j * ca + c) 0 = 0
  | 0, i, j, h1, h2 => by simp [findP] at h2; omega
  | n + 1, i, j, h1, h2 => by
    unfold findP at h2
    split at h2
    · rename_i h
      by_cases hj : j = i
      · rw [hj]; exact h
      · exact findP_zero M ca c n (i + 1) j (by omega) h2
    · omega
theorem findP_ne (M : List Nat) (ca c : Nat) : ∀ (n i : Nat), findP M ca c i n < i + n → M.getD (findP M ca c i n * ca + c) 0 ≠ 0
  | 0, i, h => by simp [findP] at h
  | n + 1, i, h => by
    unfold findP at h ⊢
    split at h
    · rename_i h0
      rw [if_pos h0]
      exact findP_ne M ca c n (i + 1) (by omega)
    · rename_i h0
      rw [if_neg h0]; exact h0

/-- A row cleared in column c by row 'rank'; the same for the matrix beside. -/
def clrStep (ca co c rank : Nat) (S : List Nat × List Nat) (k : Nat) : List Nat × List Nat :=
  if k = rank then S else (addL ca k rank (S.1.getD (k * ca + c) 0) S.1, addL co k rank (S.1.getD (k * ca + c) 0) S.2)
/-- All rows but 'rank' cleared. -/
def clrAll (ca co c rank n : Nat) (S : List Nat × List Nat) : List Nat × List Nat := (List.range n).foldl (clrStep ca co c rank) S
theorem clrAll_zero (ca co c rank : Nat) (S : List Nat × List Nat) : clrAll ca co c rank 0 S = S := rfl
theorem clrAll_succ (ca co c rank n : Nat) (S : List Nat × List Nat) : clrAll ca co c rank (n + 1) S = clrStep ca co c rank (clrAll ca co c rank n S) n := by
  rw [clrAll, List.range_succ, List.foldl_append]; rfl
theorem clrStep_length (ca co c rank : Nat) (S : List Nat × List Nat) (k : Nat) : (clrStep ca co c rank S k).1.length = S.1.length ∧ (clrStep ca co c rank S k).2.length = S.2.length := by
  unfold clrStep
  split
  · exact ⟨rfl, rfl⟩
  · exact ⟨addL_length _ _ _ _ _, addL_length _ _ _ _ _⟩
theorem clrAll_length (ca co c rank n : Nat) (S : List Nat × List Nat) : (clrAll ca co c rank n S).1.length = S.1.length ∧ (clrAll ca co c rank n S).2.length = S.2.length := by
  induction n with
  | zero => exact ⟨rfl, rfl⟩
  | succ n ih => rw [clrAll_succ]; exact ⟨(clrStep_length _ _ _ _ _ _).1.trans ih.1, (clrStep_length _ _ _ _ _ _).2.trans ih.2⟩

/-- A pivot found in row p: changed with row 'rank', scaled. -/
def pivM (ca c p rank : Nat) (M : List Nat) : List Nat := scaleL ca rank (Gf.inv ((swapL ca p rank M).getD (rank * ca + c) 0)) (swapL ca p rank M)
def pivO (ca co c p rank : Nat) (M O : List Nat) : List Nat := scaleL co rank (Gf.inv ((swapL ca p rank M).getD (rank * ca + c) 0)) (swapL co p rank O)
/-- One column. -/
def colStep (ra ca co c : Nat) (S : List Nat × List Nat × Nat) : List Nat × List Nat × Nat :=
  if findP S.1 ca c S.2.2 (ra - S.2.2) < ra then
    ((clrAll ca co c S.2.2 ra (pivM ca c (findP S.1 ca c S.2.2 (ra - S.2.2)) S.2.2 S.1, pivO ca co c (findP S.1 ca c S.2.2 (ra - S.2.2)) S.2.2 S.1 S.2.1)).1,
     (clrAll ca co c S.2.2 ra (pivM ca c (findP S.1 ca c S.2.2 (ra - S.2.2)) S.2.2 S.1, pivO ca co c (findP S.1 ca c S.2.2 (ra - S.2.2)) S.2.2 S.1 S.2.1)).2, S.2.2 + 1)
  else S
/-- All columns up to n. -/
def elim (ra ca co : Nat) (M O : List Nat) (n : Nat) : List Nat × List Nat × Nat := (List.range n).foldl (fun S c => colStep ra ca co c S) (M, O, 0)
theorem elim_zero (ra ca co : Nat) (M O : List Nat) : elim ra ca co M O 0 = (M, O, 0) := rfl
theorem elim_succ (ra ca co : Nat) (M O : List Nat) (n : Nat) : elim ra ca co M O (n + 1) = colStep ra ca co n (elim ra ca co M O n) := by
  rw [elim, List.range_succ, List.foldl_append]; rfl
theorem pivM_length (ca c p rank : Nat) (M : List Nat) : (pivM ca c p rank M).length = M.length := by rw [pivM, scaleL_length, swapL_length]
theorem pivO_length (ca co c p rank : Nat) (M O : List Nat) : (pivO ca co c p rank M O).length = O.length := by rw [pivO, scaleL_length, swapL_length]
theorem colStep_length (ra ca co c : Nat) (S : List Nat × List Nat × Nat) : (colStep ra ca co c S).1.length = S.1.length ∧ (colStep ra ca co c S).2.1.length = S.2.1.length := by
  unfold colStep
  split
  · exact ⟨by rw [(clrAll_length _ _ _ _ _ _).1]; exact pivM_length _ _ _ _ _, by rw [(clrAll_length _ _ _ _ _ _).2]; exact pivO_length _ _ _ _ _ _ _⟩
  · exact ⟨rfl, rfl⟩
theorem elim_length (ra ca co : Nat) (M O : List Nat) (n : Nat) : (elim ra ca co M O n).1.length = M.length ∧ (elim ra ca co M O n).2.1.length = O.length := by
  induction n with
  | zero => exact ⟨rfl, rfl⟩
  | succ n ih => rw [elim_succ]; exact ⟨(colStep_length _ _ _ _ _).1.trans ih.1, (colStep_length _ _ _ _ _).2.trans ih.2⟩
theorem colStep_rank (ra ca co c : Nat) (S : List Nat × List Nat × Nat) (h : S.2.2 ≤ ra) : S.2.2 ≤ (colStep ra ca co c S).2.2 ∧ (colStep ra ca co c S).2.2 ≤ ra ∧ (colStep ra ca co c S).2.2 ≤ S.2.2 + 1 := by
  unfold colStep
  split
  · rename_i h0
    have := (findP_ge S.1 ca c (ra - S.2.2) S.2.2).1
    exact ⟨by dsimp only; omega, by dsimp only; omega, by dsimp only; omega⟩
  · exact ⟨Nat.le_refl _, h, by omega⟩
theorem elim_rank (ra ca co : Nat) (M O : List Nat) (n : Nat) : (elim ra ca co M O n).2.2 ≤ ra ∧ (elim ra ca co M O n).2.2 ≤ n := by
  induction n with
  | zero => exact ⟨Nat.zero_le _, Nat.le_refl _⟩
  | succ n ih =>
    rw [elim_succ]
    have := colStep_rank ra ca co n (elim ra ca co M O n) ih.1
    omega

/-- Nothing is added where the number is 0. -/
theorem set_same (l : List Nat) (j : Nat) : l.set j (l.getD j 0) = l := by
  apply List.ext_getElem
  · rw [List.length_set]
  · intro p h1 h2
    rw [List.getElem_set]
    split
    · rename_i h; subst h
      rw [List.getElem_eq_getD (fallback := 0)]
    · rfl
theorem addL_none (c i k : Nat) (l : List Nat) : addL c i k 0 l = l := by
  have h : ∀ n, updL (fun j x => x ^^^ Gf.mul (l.getD (k * c + j) 0) 0) (i * c) n l = l := by
    intro n
    induction n with
    | zero => rfl
    | succ n ih => rw [updL_step, ih, Gf.mul_zero, Nat.xor_zero, set_same]
  exact h c
/-- The code's way to add a row. -/
theorem intoL_addL {c i k by_ : Nat} {l : List Nat} (hl : ∀ x ∈ l, x < 256) : intoL (rowS l c k) by_ (i * c) c l = addL c i k by_ l := by
  have h : ∀ n, n ≤ c → intoL (rowS l c k) by_ (i * c) n l = updL (fun j x => x ^^^ Gf.mul (l.getD (k * c + j) 0) by_) (i * c) n l := by
    intro n
    induction n with
    | zero => intro _; rfl
    | succ n ih => intro hn; rw [intoL_step, updL_step, ih (by omega), byN_rowS hl (by omega)]
  exact h c (Nat.le_refl c)
end Go.Proofs.Ytibinkppbdeofaa
