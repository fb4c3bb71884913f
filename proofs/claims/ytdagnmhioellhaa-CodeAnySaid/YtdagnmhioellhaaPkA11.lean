/- Elimination, plainly: what brings a matrix into steps. -/
import Derived.Test.YtdagnmhioellhaaPkA10
import Derived.Laws.IdiomCopy
import Derived.Lib.SlBuf
import Derived.OrdersHeld
import Derived.Deep.RegionHeld
import Derived.Test.YtdagnmhioellhaaPkA06
namespace Go.Proofs.Ytdagnmhioellhaa
open Go.ChangeShapes Go.WideShapes Go.ChangeAt Go.RowKit Go.Joins
set_option linter.unusedVariables false
set_option linter.unusedSimpArgs false

theorem swapL_length (c i k : Nat) (l : List Nat) : (swapL c i k l).length = l.length := swapK_length _ _ _ _
theorem scaleL_length (c i by_ : Nat) (l : List Nat) : (scaleL c i by_ l).length = l.length := updL_length _ _ _ _
theorem addL_length (c i k by_ : Nat) (l : List Nat) : (addL c i k by_ l).length = l.length := updL_length _ _ _ _

/-- The first row from i on, among n, whose number in column c is not 0; i + n: none. -/
def findP (M : List Nat) (ca c : Nat) : Nat → Nat → Nat
  | i, 0 => i
  | i, n + 1 => if M.getD (i * ca + c) 0 = 0 then findP M ca c (i + 1) n else i
theorem findP_ge (M : List Nat) (ca c : Nat) : ∀ (n i : Nat), i ≤ findP M ca c i n ∧ findP M ca c i n ≤ i + n
  | 0, i => by simp [findP]
  | n + 1, i => by
    unfold findP
    split
    · have := findP_ge M ca c n (i + 1); omega
    · omega
theorem findP_zero (M : List Nat) (ca c : Nat) : ∀ (n i j : Nat), i ≤ j → j < findP M ca c i n → M.getD (j * ca + c) 0 = 0
  | 0, i, j, h1, h2 => by simp [findP] at h2; omega
  | n + 1, i, j, h1, h2 => by
    unfold findP at h2
    split at h2
    · rename_i h
      by_cases hj : j = i
      · rw [hj]; exact h
      · exact findP_zero M ca c n (i + 1) j (by omega) h2
    · omega
theorem findP_ne (M : List Nat) (ca c : Nat) : ∀ (n i : Nat), findP M ca c i n < i + n → M.getD (findP M ca c i n * ca + c) 0 ≠ 0
  | 0, i, h => by simp [findP] at h
  | n + 1, i, h => by
    unfold findP at h ⊢
    split at h
    · rename_i h0
      rw [if_pos h0]
      exact findP_ne M ca c n (i + 1) (by omega)
    · rename_i h0
      rw [if_neg h0]; exact h0

/-- A row cleared in column c by row 'rank'; the same for the matrix beside. -/
def clrStep (ca co c rank : Nat) (S : List Nat × List Nat) (k : Nat) : List Nat × List Nat :=
  if k = rank then S else (addL ca k rank (S.1.getD (k * ca + c) 0) S.1, addL co k rank (S.1.getD (k * ca + c) 0) S.2)
/-- All rows but 'rank' cleared. -/
def clrAll (ca co c rank n : Nat) (S : List Nat × List Nat) : List Nat × List Nat := (List.range n).foldl (clrStep ca co c rank) S
theorem clrAll_zero (ca co c rank : Nat) (S : List Nat × List Nat) : clrAll ca co c rank 0 S = S := rfl
theorem clrAll_succ (ca co c rank n : Nat) (S : List Nat × List Nat) : clrAll ca co c rank (n + 1) S = clrStep ca co c rank (clrAll ca co c rank n S) n := by
  rw [clrAll, List.range_succ, List.foldl_append]; rfl
theorem clrStep_length (ca co c rank : Nat) (S : List Nat × List Nat) (k : Nat) : (clrStep ca co c rank S k).1.length = S.1.length ∧ (clrStep ca co c rank S k).2.length = S.2.length := by
  unfold clrStep
  split
  · exact ⟨rfl, rfl⟩
  · exact ⟨addL_length _ _ _ _ _, addL_length _ _ _ _ _⟩
theorem clrAll_length (ca co c rank n : Nat) (S : List Nat × List Nat) : (clrAll ca co c rank n S).1.length = S.1.length ∧ (clrAll ca co c rank n S).2.length = S.2.length := by
  induction n with
  | zero => exact ⟨rfl, rfl⟩
  | succ n ih => rw [clrAll_succ]; exact ⟨(clrStep_length _ _ _ _ _ _).1.trans ih.1, (clrStep_length _ _ _ _ _ _).2.trans ih.2⟩

/-- A pivot found in row p: changed with row 'rank', scaled. -/
def pivM (ca c p rank : Nat) (M : List Nat) : List Nat := scaleL ca rank (Gf.inv ((swapL ca p rank M).getD (rank * ca + c) 0)) (swapL ca p rank M)
def pivO (ca co c p rank : Nat) (M O : List Nat) : List Nat := scaleL co rank (Gf.inv ((swapL ca p rank M).getD (rank * ca + c) 0)) (swapL co p rank O)
/-- One column. -/
def colStep (ra ca co c : Nat) (S : List Nat × List Nat × Nat) : List Nat × List Nat × Nat :=
  if findP S.1 ca c S.2.2 (ra - S.2.2) < ra then
    ((clrAll ca co c S.2.2 ra (pivM ca c (findP S.1 ca c S.2.2 (ra - S.2.2)) S.2.2 S.1, pivO ca co c (findP S.1 ca c S.2.2 (ra - S.2.2)) S.2.2 S.1 S.2.1)).1,
     (clrAll ca co c S.2.2 ra (pivM ca c (findP S.1 ca c S.2.2 (ra - S.2.2)) S.2.2 S.1, pivO ca co c (findP S.1 ca c S.2.2 (ra - S.2.2)) S.2.2 S.1 S.2.1)).2, S.2.2 + 1)
  else S
/-- All columns up to n. -/
def elim (ra ca co : Nat) (M O : List Nat) (n : Nat) : List Nat × List Nat × Nat := (List.range n).foldl (fun S c => colStep ra ca co c S) (M, O, 0)
theorem elim_zero (ra ca co : Nat) (M O : List Nat) : elim ra ca co M O 0 = (M, O, 0) := rfl
theorem elim_succ (ra ca co : Nat) (M O : List Nat) (n : Nat) : elim ra ca co M O (n + 1) = colStep ra ca co n (elim ra ca co M O n) := by
  rw [elim, List.range_succ, List.foldl_append]; rfl
theorem pivM_length (ca c p rank : Nat) (M : List Nat) : (pivM ca c p rank M).length = M.length := by rw [pivM, scaleL_length, swapL_length]
theorem pivO_length (ca co c p rank : Nat) (M O : List Nat) : (pivO ca co c p rank M O).length = O.length := by rw [pivO, scaleL_length, swapL_length]
theorem colStep_length (ra ca co c : Nat) (S : List Nat × List Nat × Nat) : (colStep ra ca co c S).1.length = S.1.length ∧ (colStep ra ca co c S).2.1.length = S.2.1.length := by
  unfold colStep
  split
  · exact ⟨by rw [(clrAll_length _ _ _ _ _ _).1]; exact pivM_length _ _ _ _ _, by rw [(clrAll_length _ _ _ _ _ _).2]; exact pivO_length _ _ _ _ _ _ _⟩
  · exact ⟨rfl, rfl⟩
theorem elim_length (ra ca co : Nat) (M O : List Nat) (n : Nat) : (elim ra ca co M O n).1.length = M.length ∧ (elim ra ca co M O n).2.1.length = O.length := by
  induction n with
  | zero => exact ⟨rfl, rfl⟩
  | succ n ih => rw [elim_succ]; exact ⟨(colStep_length _ _ _ _ _).1.trans ih.1, (colStep_length _ _ _ _ _).2.trans ih.2⟩
theorem colStep_rank (ra ca co c : Nat) (S : List Nat × List Nat × Nat) (h : S.2.2 ≤ ra) : S.2.2 ≤ (colStep ra ca co c S).2.2 ∧ (colStep ra ca co c S).2.2 ≤ ra ∧ (colStep ra ca co c S).2.2 ≤ S.2.2 + 1 := by
  unfold colStep
  split
  · rename_i h0
    have := (findP_ge S.1 ca c (ra - S.2.2) S.2.2).1
    exact ⟨by dsimp only; omega, by dsimp only; omega, by dsimp only; omega⟩
  · exact ⟨Nat.le_refl _, h, by omega⟩
theorem elim_rank (ra ca co : Nat) (M O : List Nat) (n : Nat) : (elim ra ca co M O n).2.2 ≤ ra ∧ (elim ra ca co M O n).2.2 ≤ n := by
  induction n with
  | zero => exact ⟨Nat.zero_le _, Nat.le_refl _⟩
  | succ n ih =>
    rw [elim_succ]
    have := colStep_rank ra ca co n (elim ra ca co M O n) ih.1
    omega

/-- Nothing is added where the number is 0. -/
theorem set_same (l : List Nat) (j : Nat) : l.set j (l.getD j 0) = l := by
  apply List.ext_getElem
  · rw [List.length_set]
  · intro p h1 h2
    rw [List.getElem_set]
    split
    · rename_i h; subst h
      rw [List.getElem_eq_getD (fallback := 0)]
    · rfl
theorem addL_none (c i k : Nat) (l : List Nat) : addL c i k 0 l = l := by
  have h : ∀ n, updL (fun j x => x ^^^ Gf.mul (l.getD (k * c + j) 0) 0) (i * c) n l = l := by
    intro n
    induction n with
    | zero => rfl
    | succ n ih => rw [updL_step, ih, Gf.mul_zero, Nat.xor_zero, set_same]
  exact h c
/-- The code's way to add a row. -/
theorem intoL_addL {c i k by_ : Nat} {l : List Nat} (hl : ∀ x ∈ l, x < 256) : intoL (rowS l c k) by_ (i * c) c l = addL c i k by_ l := by
  have h : ∀ n, n ≤ c → intoL (rowS l c k) by_ (i * c) n l = updL (fun j x => x ^^^ Gf.mul (l.getD (k * c + j) 0) by_) (i * c) n l := by
    intro n
    induction n with
    | zero => intro _; rfl
    | succ n ih => intro hn; rw [intoL_step, updL_step, ih (by omega), byN_rowS hl (by omega)]
  exact h c (Nat.le_refl c)
end Go.Proofs.Ytdagnmhioellhaa

/- matrix.turn, walked. -/

namespace Go.Proofs.Ytdagnmhioellhaa
open Go.ChangeShapes Go.WideShapes Go.ChangeAt Go.RowKit Go.Joins
set_option linter.unusedVariables false
set_option linter.unusedSimpArgs false

theorem swapK_far (x y n : Nat) (l : List Nat) (j : Nat) (h1 : j < x ∨ x + n ≤ j) (h2 : j < y ∨ y + n ≤ j) : (swapK x y n l).getD j 0 = l.getD j 0 := by
  induction n with
  | zero => rfl
  | succ n ih => rw [swapK_succ, getD_set_ne (by omega), getD_set_ne (by omega), ih (by omega) (by omega)]
theorem swapK_get {x y n : Nat} {l : List Nat} (hd : x + n ≤ y ∨ y + n ≤ x) (hx : x + n ≤ l.length) (hy : y + n ≤ l.length) : ∀ j, j < n → (swapK x y n l).getD (x + j) 0 = l.getD (y + j) 0 ∧ (swapK x y n l).getD (y + j) 0 = l.getD (x + j) 0 := by
  induction n with
  | zero => intro j hj; omega
  | succ n ih =>
    intro j hj
    have ih := ih (by omega) (by omega) (by omega)
    rw [swapK_succ]
    by_cases h : j = n
    · subst h
      rw [swapK_far x y j l (y + j) (by omega) (by omega), swapK_far x y j l (x + j) (by omega) (by omega)]
      exact ⟨by rw [getD_set_ne (by omega), getD_set_eq (by rw [swapK_length]; omega)], by rw [getD_set_eq (by rw [List.length_set, swapK_length]; omega)]⟩
    · have := ih j (by omega)
      exact ⟨by rw [getD_set_ne (by omega), getD_set_ne (by omega)]; exact this.1, by rw [getD_set_ne (by omega), getD_set_ne (by omega)]; exact this.2⟩
theorem swapK_same (x n : Nat) (l : List Nat) : swapK x x n l = l := by
  induction n with
  | zero => rfl
  | succ n ih => rw [swapK_succ, ih, set_same, set_same]
theorem list_getD_ext {l m : List Nat} (hl : l.length = m.length) (h : ∀ j, j < l.length → l.getD j 0 = m.getD j 0) : l = m := by
  apply List.ext_getElem hl
  intro p h1 h2
  rw [List.getElem_eq_getD (fallback := 0), List.getElem_eq_getD (fallback := 0)]
  exact h p h1

/-- Bytes put from off on. -/
def putL (off : Nat) (cs : List Nat) (l : List Nat) : List Nat := updL (fun j _ => cs.getD j 0) off cs.length l
theorem putL_length (off : Nat) (cs l : List Nat) : (putL off cs l).length = l.length := updL_length _ _ _ _
/-- Two rows put crosswise. -/
theorem put_swap {c i q : Nat} {l : List Nat} (hiq : i ≠ q) (hi : (i + 1) * c ≤ l.length) (hq : (q + 1) * c ≤ l.length) :
    putL (q * c) (rowN l c i) (putL (i * c) (rowN l c q) l) = swapL c i q l := by
  have li := rowN_length hi
  have lq := rowN_length hq
  have hd : i * c + c ≤ q * c ∨ q * c + c ≤ i * c := by
    rcases Nat.lt_or_gt_of_ne hiq with h | h
    · left; have := Nat.mul_le_mul_right c h; rw [Nat.succ_mul] at this; omega
    · right; have := Nat.mul_le_mul_right c h; rw [Nat.succ_mul] at this; omega
  rw [Nat.add_mul, Nat.one_mul] at hi hq
  have hg := swapK_get (x := i * c) (y := q * c) (n := c) hd hi hq
  apply list_getD_ext
  · rw [putL_length, putL_length, swapL, swapK_length]
  · intro j hj
    rw [putL_length, putL_length] at hj
    rw [putL, putL, li, lq, swapL]
    by_cases h1 : i * c ≤ j ∧ j < i * c + c
    · obtain ⟨d, rfl⟩ : ∃ d, j = i * c + d := ⟨j - i * c, by omega⟩
      rw [updL_far _ _ _ _ _ (by omega), updL_get _ _ _ _ _ (by omega) hi, (hg d (by omega)).1, rowN_get (by omega)]
    · by_cases h2 : q * c ≤ j ∧ j < q * c + c
      · obtain ⟨d, rfl⟩ : ∃ d, j = q * c + d := ⟨j - q * c, by omega⟩
        rw [updL_get _ _ _ _ _ (by omega) (by rw [updL_length]; exact hq), (hg d (by omega)).2, rowN_get (by omega)]
      · rw [updL_far _ _ _ _ _ (by omega), updL_far _ _ _ _ _ (by omega), swapK_far _ _ _ _ _ (by omega) (by omega)]

theorem setCells_blk {B : Nat} : ∀ (cs : List Nat) (off : Nat) (w : World) (l : List Nat), BytesBlk w B l → (∀ x ∈ cs, x < 256) → BytesBlk (w.setCells B off (u8s cs)) B (updL (fun j _ => cs.getD j 0) off cs.length l)
  | [], off, w, l, h, _ => h
  | x :: cs, off, w, l, h, hx => by
    have ih := setCells_blk cs (off + 1) (w.setCell ⟨B, off, none⟩ (.int .u8 (x : Int))) (l.set off x) (h.next (hx x (by simp))) (fun y hy => hx y (by simp [hy]))
    have e : updL (fun j _ => (x :: cs).getD j 0) off (x :: cs).length l = updL (fun j _ => cs.getD j 0) (off + 1) cs.length (l.set off x) := by
      have hh : ∀ n, updL (fun j _ => (x :: cs).getD j 0) off (n + 1) l = updL (fun j _ => cs.getD j 0) (off + 1) n (l.set off x) := by
        intro n
        induction n with
        | zero => rfl
        | succ n ih => rw [updL_step, ih, updL_step]; simp [Nat.add_assoc, Nat.add_comm 1 n]
      exact hh cs.length
    rw [e]
    exact ih
theorem setCells_kept {B : Nat} : ∀ (cs : List Value) (off : Nat) (w : World), Kept (fun j => j = B) w (w.setCells B off cs)
  | [], _, _ => Kept.refl _ _
  | v :: r, off, w => ((Kept.refl (fun j => j = B) w).setCell (d := ⟨B, off, none⟩) (fun _ => rfl) v).trans (setCells_kept r (off + 1) _)
/-- The builtin copy, of bytes. -/
theorem copy_run {W : World} {B : Nat} {l cs : List Nat} {off bs os c cap cap' : Nat} (h : BytesBlk W B l) (hoff : off + c ≤ l.length) (hc : cs.length = c)
    (hs : ∀ j, j < c → W.cell? ⟨bs, os + j, none⟩ = some (.int .u8 ((cs.getD j 0 : Nat) : Int))) :
    (Builtin.copy_ #[31, 31] 3 #[.slice (some ⟨B, off, none⟩) c cap, .slice (some ⟨bs, os, none⟩) c cap']).run Try.prog W = .ok (goInt c) (W.setCells B off (u8s cs)) := by
  have := run_copy_cells (P := Try.prog) W 31 31 3 5 B off c cap ⟨bs, os, none⟩ c cap' (u8s cs) Try.underlying31 (by kernel_rfl) (by rw [u8s_length, hc]; exact (Nat.min_self c).symm)
    (fun j v hj => by
      have hl : j < cs.length := by have := (List.getElem?_eq_some_iff.1 hj).1; rwa [u8s_length] at this
      rw [Go.WideShapes.add_plain, hs j (by omega), ← hj]
      simp [u8s, List.getD, hl])
    (fun j hj => by rw [u8s_length] at hj; rw [(h (off + j) (by omega)).2.1]; rfl)
    (fun j hj => by rw [u8s_length] at hj; exact (h (off + j) (by omega)).2.2)
    (fun v hv => by obtain ⟨x, _, rfl⟩ := List.mem_map.1 hv; rfl)
  rw [u8s_length, hc] at this
  exact this
end Go.Proofs.Ytdagnmhioellhaa

/- What elimination does to entries, plainly. -/

namespace Go.Proofs.Ytdagnmhioellhaa
set_option linter.unusedVariables false
set_option linter.unusedSimpArgs false

/-- An entry. -/
def ent (c : Nat) (l : List Nat) (i j : Nat) : Nat := l.getD (i * c + j) 0
theorem row_apart {c i k j : Nat} (hj : j < c) (h : i ≠ k) : i * c + j < k * c ∨ k * c + c ≤ i * c + j := by
  rcases Nat.lt_or_gt_of_ne h with h | h
  · left; have := Nat.mul_le_mul_right c h; rw [Nat.succ_mul] at this; omega
  · right; have := Nat.mul_le_mul_right c h; rw [Nat.succ_mul] at this; omega
theorem row_fits {c r k : Nat} (h : k < r) : k * c + c ≤ r * c := by have := Nat.mul_le_mul_right c h; rw [Nat.succ_mul] at this; exact this
theorem ent_scale {c r k v i j : Nat} {l : List Nat} (hl : l.length = r * c) (hk : k < r) (hj : j < c) : ent c (scaleL c k v l) i j = if i = k then Gf.mul (ent c l i j) v else ent c l i j := by
  unfold ent scaleL
  by_cases h : i = k
  · subst h; rw [if_pos rfl, updL_get _ _ _ _ _ hj (by rw [hl]; exact row_fits hk)]
  · rw [if_neg h, updL_far _ _ _ _ _ (row_apart hj h)]
theorem ent_add {c r k q v i j : Nat} {l : List Nat} (hl : l.length = r * c) (hk : k < r) (hj : j < c) : ent c (addL c k q v l) i j = if i = k then ent c l i j ^^^ Gf.mul (ent c l q j) v else ent c l i j := by
  unfold ent addL
  by_cases h : i = k
  · subst h; rw [if_pos rfl, updL_get _ _ _ _ _ hj (by rw [hl]; exact row_fits hk)]
  · rw [if_neg h, updL_far _ _ _ _ _ (row_apart hj h)]
theorem ent_swap {c r p q i j : Nat} {l : List Nat} (hl : l.length = r * c) (hp : p < r) (hq : q < r) (hj : j < c) : ent c (swapL c p q l) i j = ent c l (swp p q i) j := by
  unfold ent swapL
  by_cases hpq : p = q
  · subst hpq; rw [swapK_same]; unfold swp; split <;> simp_all
  · have hd : p * c + c ≤ q * c ∨ q * c + c ≤ p * c := by
      rcases Nat.lt_or_gt_of_ne hpq with h | h
      · left; exact row_fits h
      · right; exact row_fits h
    have hg := swapK_get (x := p * c) (y := q * c) (n := c) (l := l) hd (by rw [hl]; exact row_fits hp) (by rw [hl]; exact row_fits hq) j hj
    unfold swp
    by_cases h1 : i = p
    · subst h1; rw [if_pos rfl]; exact hg.1
    · by_cases h2 : i = q
      · subst h2; rw [if_neg h1, if_pos rfl]; exact hg.2
      · rw [if_neg h1, if_neg h2, swapK_far _ _ _ _ _ (row_apart hj h1) (row_apart hj h2)]
theorem ent_lt {c : Nat} {l : List Nat} (h : ∀ x ∈ l, x < 256) (i j : Nat) : ent c l i j < 256 := getD_lt' h _
theorem updL_all {g : Nat → Nat → Nat} {off : Nat} {l : List Nat} (hl : ∀ x ∈ l, x < 256) (hg : ∀ j x, x < 256 → g j x < 256) : ∀ n, ∀ x ∈ updL g off n l, x < 256
  | 0 => hl
  | n + 1 => by
    rw [updL_step]
    intro x hx
    rcases List.mem_or_eq_of_mem_set hx with h | h
    · exact updL_all hl hg n x h
    · rw [h]; exact hg _ _ (getD_lt' (updL_all hl hg n) _)
theorem swapK_all {a b : Nat} {l : List Nat} (hl : ∀ x ∈ l, x < 256) : ∀ n, ∀ x ∈ swapK a b n l, x < 256
  | 0 => hl
  | n + 1 => by
    rw [swapK_succ]
    intro x hx
    rcases List.mem_or_eq_of_mem_set hx with h | h
    · rcases List.mem_or_eq_of_mem_set h with h | h
      · exact swapK_all hl n x h
      · rw [h]; exact getD_lt' (swapK_all hl n) _
    · rw [h]; exact getD_lt' (swapK_all hl n) _
theorem scaleL_all {c k v : Nat} {l : List Nat} (hl : ∀ x ∈ l, x < 256) : ∀ x ∈ scaleL c k v l, x < 256 := updL_all hl (fun _ _ h => Gf.mul_lt _ h) _
theorem addL_all {c k q v : Nat} {l : List Nat} (hl : ∀ x ∈ l, x < 256) : ∀ x ∈ addL c k q v l, x < 256 := updL_all hl (fun _ _ h => Gf.xor_lt h (Gf.mul_lt _ (getD_lt' hl _))) _
theorem swapL_all {c p q : Nat} {l : List Nat} (hl : ∀ x ∈ l, x < 256) : ∀ x ∈ swapL c p q l, x < 256 := swapK_all hl _

/-- Rows cleared: each by its own number in column c. -/
theorem ent_clr {ca co c rk ra : Nat} {M O : List Nat} (hM : M.length = ra * ca) (hO : O.length = ra * co) (hc : c < ca) : ∀ n, n ≤ ra →
    (∀ i j, j < ca → ent ca (clrAll ca co c rk n (M, O)).1 i j = if i < n ∧ i ≠ rk then ent ca M i j ^^^ Gf.mul (ent ca M rk j) (ent ca M i c) else ent ca M i j) ∧
    (∀ i j, j < co → ent co (clrAll ca co c rk n (M, O)).2 i j = if i < n ∧ i ≠ rk then ent co O i j ^^^ Gf.mul (ent co O rk j) (ent ca M i c) else ent co O i j)
  | 0, _ => ⟨fun i j hj => by rw [if_neg (by omega)]; rfl, fun i j hj => by rw [if_neg (by omega)]; rfl⟩
  | n + 1, hn => by
    obtain ⟨ihM, ihO⟩ := ent_clr hM hO hc (rk := rk) n (by omega)
    have hlM := (clrAll_length ca co c rk n (M, O)).1.trans hM
    have hlO := (clrAll_length ca co c rk n (M, O)).2.trans hO
    rw [clrAll_succ, clrStep]
    by_cases hr : n = rk
    · rw [if_pos hr]
      exact ⟨fun i j hj => by
        rw [ihM i j hj]
        by_cases h : i < n ∧ i ≠ rk
        · rw [if_pos h, if_pos (by omega)]
        · rw [if_neg h, if_neg (by omega)], fun i j hj => by
        rw [ihO i j hj]
        by_cases h : i < n ∧ i ≠ rk
        · rw [if_pos h, if_pos (by omega)]
        · rw [if_neg h, if_neg (by omega)]⟩
    · rw [if_neg hr]
      have hco : ent ca (clrAll ca co c rk n (M, O)).1 n c = ent ca M n c := by rw [ihM n c hc, if_neg (by omega)]
      have hcoe : (clrAll ca co c rk n (M, O)).1.getD (n * ca + c) 0 = ent ca M n c := hco
      dsimp only
      rw [hcoe]
      exact ⟨fun i j hj => by
        rw [ent_add hlM (by omega) hj, ihM i j hj, ihM rk j hj, if_neg (show ¬ (rk < n ∧ rk ≠ rk) by omega)]
        by_cases h : i = n
        · subst h; rw [if_pos rfl, if_neg (by omega), if_pos (by omega)]
        · rw [if_neg h]
          by_cases h2 : i < n ∧ i ≠ rk
          · rw [if_pos h2, if_pos (by omega)]
          · rw [if_neg h2, if_neg (by omega)], fun i j hj => by
        rw [ent_add hlO (by omega) hj, ihO i j hj, ihO rk j hj, if_neg (show ¬ (rk < n ∧ rk ≠ rk) by omega)]
        by_cases h : i = n
        · subst h; rw [if_pos rfl, if_neg (by omega), if_pos (by omega)]
        · rw [if_neg h]
          by_cases h2 : i < n ∧ i ≠ rk
          · rw [if_pos h2, if_pos (by omega)]
          · rw [if_neg h2, if_neg (by omega)]⟩
theorem clrAll_all {ca co c rk : Nat} {M O : List Nat} (hM : ∀ x ∈ M, x < 256) (hO : ∀ x ∈ O, x < 256) : ∀ n, (∀ x ∈ (clrAll ca co c rk n (M, O)).1, x < 256) ∧ (∀ x ∈ (clrAll ca co c rk n (M, O)).2, x < 256)
  | 0 => ⟨hM, hO⟩
  | n + 1 => by
    have ih := clrAll_all (ca := ca) (co := co) (c := c) (rk := rk) hM hO n
    rw [clrAll_succ, clrStep]
    split
    · exact ih
    · exact ⟨addL_all ih.1, addL_all ih.2⟩
end Go.Proofs.Ytdagnmhioellhaa
