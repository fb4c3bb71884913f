/- Products of matrices, plainly. -/
import Derived.Test.YtibinkppbdeofaaMatO
namespace Go.Proofs.Ytibinkppbdeofaa
open Go.ChangeShapes Go.WideShapes Go.ChangeAt Go.RowKit Go.Joins
set_option linter.unusedVariables false
set_option linter.unusedSimpArgs false

/-- A row's bytes. -/
def rowN (bs : List Nat) (c k : Nat) : List Nat := (bs.drop (k * c)).take c
theorem rowN_length {bs : List Nat} {c k : Nat} (h : (k + 1) * c ≤ bs.length) : (rowN bs c k).length = c := by
  rw [Nat.add_mul, Nat.one_mul] at h
  rw [rowN, List.length_take, List.length_drop]; omega
theorem rowN_get {bs : List Nat} {c k i : Nat} (h : i < c) : (rowN bs c k).getD i 0 = bs.getD (k * c + i) 0 := by
  simp [rowN, List.getD, List.getElem?_take, h]
theorem rowN_lt {bs : List Nat} {c k : Nat} (h : ∀ x ∈ bs, x < 256) : ∀ x ∈ rowN bs c k, x < 256 := fun x hx => h x (List.mem_of_mem_drop (List.mem_of_mem_take hx))
def rowS (bs : List Nat) (c k : Nat) : ByteArray := strOf8 (rowN bs c k)
theorem rowS_size {bs : List Nat} {c k : Nat} (h : (k + 1) * c ≤ bs.length) : (rowS bs c k).size = c := by rw [rowS, strOf8_size, rowN_length h]
theorem byN_str {ns : List Nat} (h : ∀ x ∈ ns, x < 256) (i : Nat) : byN (strOf8 ns) i = ns.getD i 0 := by
  rw [← bytesOf_get, bytesOf_strOf8 h]
theorem byN_rowS {bs : List Nat} {c k i : Nat} (hb : ∀ x ∈ bs, x < 256) (h : i < c) : byN (rowS bs c k) i = bs.getD (k * c + i) 0 := by
  rw [rowS, byN_str (rowN_lt hb), rowN_get h]

/-- One entry of a product, of which j products were added. -/
def dotK (ms bs : List Nat) (ca cb i q j : Nat) : Nat := (List.range j).foldl (fun x j => x ^^^ Gf.mul (ms.getD (i * ca + j) 0) (bs.getD (j * cb + q) 0)) 0
theorem dotK_zero (ms bs : List Nat) (ca cb i q : Nat) : dotK ms bs ca cb i q 0 = 0 := rfl
theorem dotK_succ (ms bs : List Nat) (ca cb i q j : Nat) : dotK ms bs ca cb i q (j + 1) = dotK ms bs ca cb i q j ^^^ Gf.mul (ms.getD (i * ca + j) 0) (bs.getD (j * cb + q) 0) := by
  rw [dotK, List.range_succ, List.foldl_append]; rfl
theorem getD_lt' {ns : List Nat} (h : ∀ x ∈ ns, x < 256) (i : Nat) : ns.getD i 0 < 256 := by
  by_cases hi : i < ns.length
  · exact getD_lt h hi
  · simp [List.getD, hi]
theorem dotK_lt {ms bs : List Nat} (ha : ∀ x ∈ ms, x < 256) (ca cb i q j : Nat) : dotK ms bs ca cb i q j < 256 := by
  induction j with
  | zero => rw [dotK_zero]; decide
  | succ j ih => rw [dotK_succ]; exact Gf.xor_lt ih (Gf.mul_lt _ (getD_lt' ha _))
/-- The product. -/
def timesL (ms bs : List Nat) (ra ca cb : Nat) : List Nat := (List.range (ra * cb)).map fun p => dotK ms bs ca cb (p / cb) (p % cb) ca
theorem timesL_length (ms bs : List Nat) (ra ca cb : Nat) : (timesL ms bs ra ca cb).length = ra * cb := by simp [timesL]

/-- The code's way: a row, of which k rows of the other one were added. -/
def timesRow (ms bs : List Nat) (ca cb i k : Nat) (x : List Nat) : List Nat := (List.range k).foldl (fun x k => intoL (rowS bs cb k) (ms.getD (i * ca + k) 0) (i * cb) cb x) x
theorem timesRow_zero (ms bs : List Nat) (ca cb i : Nat) (x : List Nat) : timesRow ms bs ca cb i 0 x = x := rfl
theorem timesRow_succ (ms bs : List Nat) (ca cb i k : Nat) (x : List Nat) : timesRow ms bs ca cb i (k + 1) x = intoL (rowS bs cb k) (ms.getD (i * ca + k) 0) (i * cb) cb (timesRow ms bs ca cb i k x) := by
  rw [timesRow, List.range_succ, List.foldl_append]; rfl
theorem timesRow_length (ms bs : List Nat) (ca cb i k : Nat) (x : List Nat) : (timesRow ms bs ca cb i k x).length = x.length := by
  induction k with
  | zero => rfl
  | succ k ih => rw [timesRow_succ, intoL_length, ih]
def timesF (ms bs : List Nat) (ra ca cb : Nat) (pre : List (Fin ra)) : List Nat := pre.foldl (fun x i => timesRow ms bs ca cb i.1 ca x) (List.replicate (ra * cb) 0)
theorem timesF_snoc (ms bs : List Nat) (ra ca cb : Nat) (pre : List (Fin ra)) (i : Fin ra) : timesF ms bs ra ca cb (pre ++ [i]) = timesRow ms bs ca cb i.1 ca (timesF ms bs ra ca cb pre) := by rw [timesF, List.foldl_append]; rfl
theorem timesF_length (ms bs : List Nat) (ra ca cb : Nat) (pre : List (Fin ra)) : (timesF ms bs ra ca cb pre).length = ra * cb := by
  have h : ∀ (pre : List (Fin ra)) (l : List Nat), (pre.foldl (fun x i => timesRow ms bs ca cb i.1 ca x) l).length = l.length := by
    intro pre
    induction pre with
    | nil => intro l; rfl
    | cons i pre ih => intro l; rw [List.foldl_cons, ih, timesRow_length]
  rw [timesF, h, List.length_replicate]

theorem timesRow_far (ms bs : List Nat) (ca cb i k : Nat) (x : List Nat) (p : Nat) (h : p < i * cb ∨ i * cb + cb ≤ p) : (timesRow ms bs ca cb i k x).getD p 0 = x.getD p 0 := by
  induction k with
  | zero => rfl
  | succ k ih => rw [timesRow_succ, intoL_far _ _ _ _ _ _ h, ih]
theorem timesRow_get {ms bs : List Nat} (ha : ∀ x ∈ ms, x < 256) (hb : ∀ x ∈ bs, x < 256) (ca cb i k : Nat) (x : List Nat) (q : Nat) (hq : q < cb) (hx : i * cb + cb ≤ x.length) (h0 : x.getD (i * cb + q) 0 = 0) : (timesRow ms bs ca cb i k x).getD (i * cb + q) 0 = dotK ms bs ca cb i q k := by
  induction k with
  | zero => rw [timesRow_zero, dotK_zero, h0]
  | succ k ih =>
    rw [timesRow_succ, intoL_get _ _ _ _ _ _ hq (by rw [timesRow_length]; exact hx), ih, dotK_succ, byN_rowS hb hq, Gf.mul_comm (getD_lt' hb _) (getD_lt' ha _)]
/-- Some rows done. -/
def timesN (ms bs : List Nat) (ra ca cb j : Nat) : List Nat := (List.range j).foldl (fun x i => timesRow ms bs ca cb i ca x) (List.replicate (ra * cb) 0)
theorem timesN_succ (ms bs : List Nat) (ra ca cb j : Nat) : timesN ms bs ra ca cb (j + 1) = timesRow ms bs ca cb j ca (timesN ms bs ra ca cb j) := by
  rw [timesN, List.range_succ, List.foldl_append]; rfl
theorem timesN_length (ms bs : List Nat) (ra ca cb j : Nat) : (timesN ms bs ra ca cb j).length = ra * cb := by
  induction j with
  | zero => simp [timesN]
  | succ j ih => rw [timesN_succ, timesRow_length, ih]
theorem timesN_get {ms bs : List Nat} (ha : ∀ x ∈ ms, x < 256) (hb : ∀ x ∈ bs, x < 256) (ra ca cb j : Nat) (hj : j ≤ ra) (i q : Nat) (hi : i < ra) (hq : q < cb) :
    (timesN ms bs ra ca cb j).getD (i * cb + q) 0 = if i < j then dotK ms bs ca cb i q ca else 0 := by
  have hin : i * cb + cb ≤ ra * cb := by have := Nat.mul_le_mul_right cb hi; rw [Nat.succ_mul] at this; exact this
  induction j with
  | zero => simp [timesN, List.getD, show i * cb + q < ra * cb by omega]
  | succ j ih =>
    have ih := ih (by omega)
    rw [timesN_succ]
    by_cases h : i = j
    · subst h
      rw [if_neg (by omega)] at ih
      rw [timesRow_get ha hb _ _ _ _ _ _ hq (by rw [timesN_length]; exact hin) ih, if_pos (by omega)]
    · rw [timesRow_far, ih]
      · by_cases h2 : i < j
        · rw [if_pos h2, if_pos (by omega)]
        · rw [if_neg h2, if_neg (by omega)]
      · rcases Nat.lt_or_ge i j with h2 | h2
        · left
          have := Nat.mul_le_mul_right cb h2
          rw [Nat.succ_mul] at this; omega
        · right
          have := Nat.mul_le_mul_right cb (show j + 1 ≤ i by omega)
          rw [Nat.add_mul, Nat.one_mul] at this; omega
theorem timesF_all {ms bs : List Nat} (ha : ∀ x ∈ ms, x < 256) (hb : ∀ x ∈ bs, x < 256) (ra ca cb : Nat) (h0 : 0 < cb) : timesF ms bs ra ca cb (finL ra ra (Nat.le_refl ra)) = timesL ms bs ra ca cb := by
  have e : timesF ms bs ra ca cb (finL ra ra (Nat.le_refl ra)) = timesN ms bs ra ca cb ra := by
    rw [timesN, ← finL_val ra ra (Nat.le_refl ra), List.foldl_map]; rfl
  rw [e]
  apply List.ext_getElem
  · rw [timesN_length, timesL_length]
  · intro p h1 h2
    rw [timesN_length] at h1
    have hi : p / cb < ra := Nat.div_lt_of_lt_mul (by rw [Nat.mul_comm]; exact h1)
    have hq : p % cb < cb := Nat.mod_lt _ h0
    have hp : p / cb * cb + p % cb = p := by rw [Nat.mul_comm]; exact Nat.div_add_mod p cb
    have := timesN_get ha hb ra ca cb ra (Nat.le_refl ra) (p / cb) (p % cb) hi hq
    rw [hp, if_pos hi] at this
    rw [List.getElem_eq_getD (fallback := 0), this]
    simp [timesL]
end Go.Proofs.Ytibinkppbdeofaa
