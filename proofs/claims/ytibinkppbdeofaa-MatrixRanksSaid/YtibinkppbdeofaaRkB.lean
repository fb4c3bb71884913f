/- What elimination does to entries, plainly. -/
import Derived.Test.YtibinkppbdeofaaRkA
import Derived.Test.YtibinkppbdeofaaMatJ
namespace Go.Proofs.Ytibinkppbdeofaa
set_option linter.unusedVariables false
set_option linter.unusedSimpArgs false

/-- An entry. -/
def ent (c : Nat) (l : List Nat) (i j : Nat) : Nat := l.getD (i * c + j) 0
theorem row_apart {c i k j : Nat} (hj : j < c) (h : i ≠ k) : i * c + j < k * c ∨ k * c + c ≤ i * c + j := by
  rcases Nat.lt_or_gt_of_ne h with h | h
  · left; have := Nat.mul_le_mul_right c h; rw [Nat.succ_mul] at this; omega
  · right; have := Nat.mul_le_mul_right c h; rw [Nat.succ_mul] at this; omega
theorem row_fits {c r k : Nat} (h : k < r) : k * c + c ≤ r * c := by have := Nat.mul_le_mul_right c h; rw [Nat.succ_mul] at this; exact this
theorem ent_scale {c r k v i j : Nat} {l : List Nat} (hl : l.length = r * c) (hk : k < r) (hj : j < c) : ent c (scaleL c k v l) i j = if i = k then Gf.mul (ent c l i j) v else ent c l i j := by
  unfold ent scaleL
  by_cases h : i = k
  · subst h; rw [if_pos rfl, updL_get _ _ _ _ _ hj (by rw [hl]; exact row_fits hk)]
  · rw [if_neg h, updL_far _ _ _ _ _ (row_apart hj h)]
theorem ent_add {c r k q v i j : Nat} {l : List Nat} (hl : l.length = r * c) (hk : k < r) (hj : j < c) : ent c (addL c k q v l) i j = if i = k then ent c l i j ^^^ Gf.mul (ent c l q j) v else ent c l i j := by
  unfold ent addL
  by_cases h : i = k
  · subst h; rw [if_pos rfl, updL_get _ _ _ _ _ hj (by rw [hl]; exact row_fits hk)]
  · rw [if_neg h, updL_far _ _ _ _ _ (row_apart hj h)]
theorem ent_swap {c r p q i j : Nat} {l : List Nat} (hl : l.length = r * c) (hp : p < r) (hq : q < r) (hj : j < c) : ent c (swapL c p q l) i j = ent c l (swp p q i) j := by
  unfold ent swapL
  by_cases hpq : p = q
  · subst hpq; rw [swapK_same]; unfold swp; split <;> simp_all
  · have hd : p * c + c ≤ q * c ∨ q * c + c ≤ p * c := by
      rcases Nat.lt_or_gt_of_ne hpq with h | h
      · left; exact row_fits h
      · right; exact row_fits h
    have hg := swapK_get (x := p * c) (y := q * c) (n := c) (l := l) hd (by rw [hl]; exact row_fits hp) (by rw [hl]; exact row_fits hq) j hj
    unfold swp
    by_cases h1 : i = p
    · subst h1; rw [if_pos rfl]; exact hg.1
    · by_cases h2 : i = q
      · subst h2; rw [if_neg h1, if_pos rfl]; exact hg.2
      · rw [if_neg h1, if_neg h2, swapK_far _ _ _ _ _ (row_apart hj h1) (row_apart hj h2)]
theorem ent_lt {c : Nat} {l : List Nat} (h : ∀ x ∈ l, x < 256) (i j : Nat) : ent c l i j < 256 := getD_lt' h _
theorem updL_all {g : Nat → Nat → Nat} {off : Nat} {l : List Nat} (hl : ∀ x ∈ l, x < 256) (hg : ∀ j x, x < 256 → g j x < 256) : ∀ n, ∀ x ∈ updL g off n l, x < 256
  | 0 => hl
  | n + 1 => by
    rw [updL_step]
    intro x hx
    rcases List.mem_or_eq_of_mem_set hx with h | h
    · exact updL_all hl hg n x h
    · rw [h]; exact hg _ _ (getD_lt' (updL_all hl hg n) _)
theorem swapK_all {a b : Nat} {l : List Nat} (hl : ∀ x ∈ l, x < 256) : ∀ n, ∀ x ∈ swapK a b n l, x < 256
  | 0 => hl
  | n + 1 => by
    rw [swapK_succ]
    intro x hx
    rcases List.mem_or_eq_of_mem_set hx with h | h
    · rcases List.mem_or_eq_of_mem_set h with h | h
      · exact swapK_all hl n x h
      · rw [h]; exact getD_lt' (swapK_all hl n) _
    · rw [h]; exact getD_lt' (swapK_all hl n) _
theorem scaleL_all {c k v : Nat} {l : List Nat} (hl : ∀ x ∈ l, x < 256) : ∀ x ∈ scaleL c k v l, x < 256 := updL_all hl (fun _ _ h => Gf.mul_lt _ h) _
theorem addL_all {c k q v : Nat} {l : List Nat} (hl : ∀ x ∈ l, x < 256) : ∀ x ∈ addL c k q v l, x < 256 := updL_all hl (fun _ _ h => Gf.xor_lt h (Gf.mul_lt _ (getD_lt' hl _))) _
theorem swapL_all {c p q : Nat} {l : List Nat} (hl : ∀ x ∈ l, x < 256) : ∀ x ∈ swapL c p q l, x < 256 := swapK_all hl _

/-- Rows cleared: each by its own number in column c. -/
theorem ent_clr {ca co c rk ra : Nat} {M O : List Nat} (hM : M.length = ra * ca) (hO : O.length = ra * co) (hc : c < ca) : ∀ n, n ≤ ra →
    (∀ i j, j < ca → ent ca (clrAll ca co c rk n (M, O)).1 i j = if i < n ∧ i ≠ rk then ent ca M i j ^^^ Gf.mul (ent ca M rk j) (ent ca M i c) else ent ca M i j) ∧
    (∀ i j, j < co → ent co (clrAll ca co c rk n (M, O)).2 i j = if i < n ∧ i ≠ rk then ent co O i j ^^^ Gf.mul (ent co O rk j) (ent ca M i c) else ent co O i j)
  | 0, _ => ⟨fun i j hj => by rw [if_neg (by omega)]; rfl, fun i j hj => by rw [if_neg (by omega)]; rfl⟩
  | n + 1, hn => by
    obtain ⟨ihM, ihO⟩ := ent_clr hM hO hc (rk := rk) n (by omega)
    have hlM := (clrAll_length ca co c rk n (M, O)).1.trans hM
    have hlO := (clrAll_length ca co c rk n (M, O)).2.trans hO
    rw [clrAll_succ, clrStep]
    by_cases hr : n = rk
    · rw [if_pos hr]
      exact ⟨fun i j hj => by
        rw [ihM i j hj]
        by_cases h : i < n ∧ i ≠ rk
        · rw [if_pos h, if_pos (by omega)]
        · rw [if_neg h, if_neg (by omega)], fun i j hj => by
        rw [ihO i j hj]
        by_cases h : i < n ∧ i ≠ rk
        · rw [if_pos h, if_pos (by omega)]
        · rw [if_neg h, if_neg (by omega)]⟩
    · rw [if_neg hr]
      have hco : ent ca (clrAll ca co c rk n (M, O)).1 n c = ent ca M n c := by rw [ihM n c hc, if_neg (by omega)]
      have hcoe : (clrAll ca co c rk n (M, O)).1.getD (n * ca + c) 0 = ent ca M n c := hco
      dsimp only
      rw [hcoe]
      exact ⟨fun i j hj => by
        rw [ent_add hlM (by omega) hj, ihM i j hj, ihM rk j hj, if_neg (show ¬ (rk < n ∧ rk ≠ rk) by omega)]
        by_cases h : i = n
        · subst h; rw [if_pos rfl, if_neg (by omega), if_pos (by omega)]
        · rw [if_neg h]
          by_cases h2 : i < n ∧ i ≠ rk
          · rw [if_pos h2, if_pos (by omega)]
          · rw [if_neg h2, if_neg (by omega)], fun i j hj => by
        rw [ent_add hlO (by omega) hj, ihO i j hj, ihO rk j hj, if_neg (show ¬ (rk < n ∧ rk ≠ rk) by omega)]
        by_cases h : i = n
        · subst h; rw [if_pos rfl, if_neg (by omega), if_pos (by omega)]
        · rw [if_neg h]
          by_cases h2 : i < n ∧ i ≠ rk
          · rw [if_pos h2, if_pos (by omega)]
          · rw [if_neg h2, if_neg (by omega)]⟩
theorem clrAll_all {ca co c rk : Nat} {M O : List Nat} (hM : ∀ x ∈ M, x < 256) (hO : ∀ x ∈ O, x < 256) : ∀ n, (∀ x ∈ (clrAll ca co c rk n (M, O)).1, x < 256) ∧ (∀ x ∈ (clrAll ca co c rk n (M, O)).2, x < 256)
  | 0 => ⟨hM, hO⟩
  | n + 1 => by
    have ih := clrAll_all (ca := ca) (co := co) (c := c) (rk := rk) hM hO n
    rw [clrAll_succ, clrStep]
    split
    · exact ih
    · exact ⟨addL_all ih.1, addL_all ih.2⟩
end Go.Proofs.Ytibinkppbdeofaa
