/- Sums of products over the field; where one is a product of two, they are as wide. -/
import Derived.Test.YtibinkppbdeofaaPk07LawMatrixLanes
import Derived.Test.YtibinkppbdeofaaPk12LawMatrixLanes
import Derived.Test.YtibinkppbdeofaaPk16LawMatrixLanes
namespace Go.Proofs.Ytibinkppbdeofaa
set_option linter.unusedVariables false
set_option linter.unusedSimpArgs false

/-- A sum of products. -/
def dot (f : Nat) (u v : Nat → Nat) : Nat := (List.range f).foldl (fun a k => a ^^^ Gf.mul (u k) (v k)) 0
theorem dot_zero (u v : Nat → Nat) : dot 0 u v = 0 := rfl
theorem dot_succ (f : Nat) (u v : Nat → Nat) : dot (f + 1) u v = dot f u v ^^^ Gf.mul (u f) (v f) := by rw [dot, List.range_succ, List.foldl_append]; rfl
/-- Whose numbers are all below 256. -/
def B8 (u : Nat → Nat) : Prop := ∀ k, u k < 256
theorem dot_lt {u v : Nat → Nat} (hu : B8 u) : ∀ f, dot f u v < 256
  | 0 => by rw [dot_zero]; decide
  | f + 1 => by rw [dot_succ]; exact Gf.xor_lt (dot_lt hu f) (Gf.mul_lt _ (hu f))
theorem dot_congr {f : Nat} {u u' v v' : Nat → Nat} (h : ∀ k, k < f → u k = u' k) (h' : ∀ k, k < f → v k = v' k) : dot f u v = dot f u' v' := by
  induction f with
  | zero => rfl
  | succ f ih => rw [dot_succ, dot_succ, ih (fun k hk => h k (by omega)) (fun k hk => h' k (by omega)), h f (by omega), h' f (by omega)]
theorem xor_four (a b c d : Nat) : (a ^^^ b) ^^^ (c ^^^ d) = (a ^^^ c) ^^^ (b ^^^ d) := by
  rw [Nat.xor_assoc, Nat.xor_assoc, ← Nat.xor_assoc b c d, Nat.xor_comm b c, Nat.xor_assoc c b d]
theorem dot_add_left {u u' v : Nat → Nat} (hu : B8 u) (hu' : B8 u') : ∀ f, dot f (fun k => u k ^^^ u' k) v = dot f u v ^^^ dot f u' v
  | 0 => by rw [dot_zero, dot_zero, dot_zero]; rfl
  | f + 1 => by
    rw [dot_succ, dot_succ, dot_succ, dot_add_left hu hu' f, Gf.mul_xor_left _ (hu f) (hu' f), xor_four]
theorem dot_add_right {u v v' : Nat → Nat} (hu : B8 u) (hv : B8 v) (hv' : B8 v') : ∀ f, dot f u (fun k => v k ^^^ v' k) = dot f u v ^^^ dot f u v'
  | 0 => by rw [dot_zero, dot_zero, dot_zero]; rfl
  | f + 1 => by
    rw [dot_succ, dot_succ, dot_succ, dot_add_right hu hv hv' f, Gf.mul_xor_right (hu f) (hv f) (hv' f), xor_four]
theorem dot_smul_left {c : Nat} {u v : Nat → Nat} (hc : c < 256) (hu : B8 u) (hv : B8 v) : ∀ f, dot f (fun k => Gf.mul c (u k)) v = Gf.mul c (dot f u v)
  | 0 => by rw [dot_zero, dot_zero, Gf.mul_zero]
  | f + 1 => by
    rw [dot_succ, dot_succ, dot_smul_left hc hu hv f, Gf.mul_assoc hc (hu f) (hv f), Gf.mul_xor_right hc (dot_lt hu f) (Gf.mul_lt _ (hu f))]
theorem dot_smul_right {c : Nat} {u v : Nat → Nat} (hc : c < 256) (hu : B8 u) (hv : B8 v) : ∀ f, dot f u (fun k => Gf.mul c (v k)) = Gf.mul c (dot f u v)
  | 0 => by rw [dot_zero, dot_zero, Gf.mul_zero]
  | f + 1 => by
    rw [dot_succ, dot_succ, dot_smul_right hc hu hv f, ← Gf.mul_assoc (hu f) hc (hv f), Gf.mul_comm (hu f) hc, Gf.mul_assoc hc (hu f) (hv f), Gf.mul_xor_right hc (dot_lt hu f) (Gf.mul_lt _ (hu f))]
theorem dot_none_left {u v : Nat → Nat} (hv : B8 v) {f : Nat} (h : ∀ k, k < f → u k = 0) : dot f u v = 0 := by
  induction f with
  | zero => rfl
  | succ f ih => rw [dot_succ, ih (fun k hk => h k (by omega)), h f (by omega), Gf.zero_mul _ (hv f)]; rfl
theorem dot_none_right {u v : Nat → Nat} {f : Nat} (h : ∀ k, k < f → v k = 0) : dot f u v = 0 := by
  induction f with
  | zero => rfl
  | succ f ih => rw [dot_succ, ih (fun k hk => h k (by omega)), h f (by omega), Gf.mul_zero]; rfl
theorem dot_one_left {v : Nat → Nat} (hv : B8 v) {f i : Nat} (h : i < f) : dot f (fun k => if i = k then 1 else 0) v = v i := by
  induction f with
  | zero => omega
  | succ f ih =>
    rw [dot_succ]
    by_cases hi : i = f
    · subst hi
      rw [dot_none_left hv (fun k hk => if_neg (by omega)), if_pos rfl, Gf.one_mul _ (hv i), Nat.zero_xor]
    · rw [ih (by omega), if_neg hi, Gf.zero_mul _ (hv f), Nat.xor_zero]
theorem dot_one_right {u : Nat → Nat} (hu : B8 u) {f i : Nat} (h : i < f) : dot f u (fun k => if k = i then 1 else 0) = u i := by
  induction f with
  | zero => omega
  | succ f ih =>
    rw [dot_succ]
    by_cases hi : i = f
    · subst hi
      rw [dot_none_right (fun k hk => if_neg (by omega)), if_pos rfl, Gf.mul_one _ (hu i), Nat.zero_xor]
    · rw [ih (by omega), if_neg (fun e => hi e.symm), Gf.mul_zero, Nat.xor_zero]
/-- Brackets of a product of three. -/
theorem dot_dot {u : Nat → Nat} {A : Nat → Nat → Nat} {v : Nat → Nat} (hu : B8 u) (hA : ∀ i, B8 (A i)) (hv : B8 v) (g : Nat) : ∀ f, dot g (fun j => dot f u (fun k => A k j)) v = dot f u (fun k => dot g (A k) v)
  | 0 => by rw [dot_zero]; exact dot_none_left hv (fun _ _ => rfl)
  | f + 1 => by
    rw [dot_succ, ← dot_dot hu hA hv g f]
    have e : dot g (fun j => dot (f + 1) u (fun k => A k j)) v = dot g (fun j => dot f u (fun k => A k j) ^^^ Gf.mul (u f) (A f j)) v := dot_congr (fun k _ => dot_succ _ _ _) (fun _ _ => rfl)
    rw [e, dot_add_left (fun k => dot_lt hu f) (fun k => Gf.mul_lt _ (hu f)), dot_smul_left (hu f) (hA f) hv]

/-- The row and the column changed to the last place. -/
def swp (a b k : Nat) : Nat := if k = a then b else if k = b then a else k
theorem swp_swp (a b k : Nat) : swp a b (swp a b k) = k := by
  unfold swp
  by_cases h1 : k = a
  · subst h1
    by_cases h2 : b = k
    · simp [h2]
    · simp [h2]
  · by_cases h2 : k = b
    · subst h2; simp [h1]
    · simp [h1, h2]
theorem swp_lt {a b k r : Nat} (ha : a < r) (hb : b < r) (hk : k < r) : swp a b k < r := by unfold swp; split <;> (try split) <;> omega
theorem swp_inj {a b i j : Nat} : swp a b i = swp a b j ↔ i = j := ⟨fun h => by rw [← swp_swp a b i, h, swp_swp], fun h => by rw [h]⟩

/-- If a product over f is one of r, then r is no more than f. -/
theorem id_le : ∀ (f r : Nat) (X Y : Nat → Nat → Nat), (∀ i, B8 (X i)) → (∀ k, B8 (Y k)) → (∀ i j, i < r → j < r → dot f (X i) (fun k => Y k j) = if i = j then 1 else 0) → r ≤ f
  | 0, r, X, Y, hX, hY, h => by
    cases r with
    | zero => exact Nat.le_refl 0
    | succ r => have := h 0 0 (by omega) (by omega); rw [dot_zero, if_pos rfl] at this; omega
  | f + 1, 0, X, Y, hX, hY, h => Nat.zero_le _
  | f + 1, r + 1, X, Y, hX, hY, h => by
    by_cases hz : ∃ i, i < r + 1 ∧ X i f ≠ 0
    · obtain ⟨i0, hi0, hne⟩ := hz
      -- the row with a number in the last column is the last one
      have hs : ∀ i, i < r → swp i0 r i ≠ i0 := fun i hi e => by
        have : swp i0 r i = swp i0 r r := by rw [e]; unfold swp; split <;> simp_all
        rw [swp_inj] at this; omega
      have hs0 : swp i0 r r = i0 := by unfold swp; split <;> simp_all
      obtain ⟨v, hv⟩ : ∃ v, v = Gf.inv (X i0 f) := ⟨_, rfl⟩
      have hv256 : v < 256 := by rw [hv]; exact Gf.inv_lt _
      have hvx : Gf.mul v (X i0 f) = 1 := by rw [hv]; exact Gf.mul_inv (hX i0 f) hne
      have hc : ∀ i, Gf.mul (X (swp i0 r i) f) v < 256 := fun i => Gf.mul_lt _ (hX _ f)
      have := id_le f r (fun i k => X (swp i0 r i) k ^^^ Gf.mul (Gf.mul (X (swp i0 r i) f) v) (X i0 k)) (fun k j => Y k (swp i0 r j))
        (fun i k => Gf.xor_lt (hX _ k) (Gf.mul_lt _ (hc i))) (fun k j => hY k _) (fun i j hi hj => by
          have hY' : B8 (fun k => Y k (swp i0 r j)) := fun k => hY k _
          have hsub : B8 (fun k => Gf.mul (Gf.mul (X (swp i0 r i) f) v) (X i0 k)) := fun k => Gf.mul_lt _ (hc i)
          have e1 := h (swp i0 r i) (swp i0 r j) (swp_lt hi0 (by omega) (by omega)) (swp_lt hi0 (by omega) (by omega))
          have e2 := h i0 (swp i0 r j) hi0 (swp_lt hi0 (by omega) (by omega))
          rw [if_neg (fun e => hs j hj e.symm)] at e2
          have e3 : dot (f + 1) (fun k => X (swp i0 r i) k ^^^ Gf.mul (Gf.mul (X (swp i0 r i) f) v) (X i0 k)) (fun k => Y k (swp i0 r j)) = if swp i0 r i = swp i0 r j then 1 else 0 := by
            rw [dot_add_left (hX _) hsub, dot_smul_left (hc i) (hX i0) hY', e1, e2, Gf.mul_zero, Nat.xor_zero]
          rw [dot_succ] at e3
          have e4 : X (swp i0 r i) f ^^^ Gf.mul (Gf.mul (X (swp i0 r i) f) v) (X i0 f) = 0 := by
            rw [Gf.mul_assoc (hX _ f) hv256 (hX i0 f), hvx, Gf.mul_one _ (hX _ f), Nat.xor_self]
          rw [e4, Gf.zero_mul _ (hY f _), Nat.xor_zero] at e3
          rw [e3]
          by_cases hij : i = j
          · rw [hij]
            rw [if_pos rfl, if_pos rfl]
          · rw [if_neg hij, if_neg (fun e => hij (swp_inj.1 e))])
      omega
    · have hz' : ∀ i, i < r + 1 → X i f = 0 := fun i hi => Classical.byContradiction fun hne => hz ⟨i, hi, hne⟩
      have := id_le f (r + 1) X Y hX hY (fun i j hi hj => by
        have e := h i j hi hj
        rw [dot_succ, hz' i hi, Gf.zero_mul _ (hY f j), Nat.xor_zero] at e
        exact e)
      omega
end Go.Proofs.Ytibinkppbdeofaa

/- What elimination does to entries, plainly. -/

namespace Go.Proofs.Ytibinkppbdeofaa
set_option linter.unusedVariables false
set_option linter.unusedSimpArgs false

/-- An entry. -/
def ent (c : Nat) (l : List Nat) (i j : Nat) : Nat := l.getD (i * c + j) 0
theorem row_apart {c i k j : Nat} (hj : j < c) (h : i ≠ k) : i * c + j < k * c ∨ k * c + c ≤ i * c + j := by
  rcases Nat.lt_or_gt_of_ne h with h | h
  · left; have := Nat.mul_le_mul_right c h; rw [Nat.succ_mul] at this; omega
  · right; have := Nat.mul_le_mul_right c h; rw [Nat.succ_mul] at this; omega
theorem row_fits {c r k : Nat} (h : k < r) : k * c + c ≤ r * c := by have := Nat.mul_le_mul_right c h; rw [Nat.succ_mul] at this; exact this
theorem ent_scale {c r k v i j : Nat} {l : List Nat} (hl : l.length = r * c) (hk : k < r) (hj : j < c) : ent c (scaleL c k v l) i j = if i = k then Gf.mul (ent c l i j) v else ent c l i j := by
  unfold ent scaleL
  by_cases h : i = k
  · subst h; rw [if_pos rfl, updL_get _ _ _ _ _ hj (by rw [hl]; exact row_fits hk)]
  · rw [if_neg h, updL_far _ _ _ _ _ (row_apart hj h)]
theorem ent_add {c r k q v i j : Nat} {l : List Nat} (hl : l.length = r * c) (hk : k < r) (hj : j < c) : ent c (addL c k q v l) i j = if i = k then ent c l i j ^^^ Gf.mul (ent c l q j) v else ent c l i j := by
  unfold ent addL
  by_cases h : i = k
  · subst h; rw [if_pos rfl, updL_get _ _ _ _ _ hj (by rw [hl]; exact row_fits hk)]
  · rw [if_neg h, updL_far _ _ _ _ _ (row_apart hj h)]
theorem ent_swap {c r p q i j : Nat} {l : List Nat} (hl : l.length = r * c) (hp : p < r) (hq : q < r) (hj : j < c) : ent c (swapL c p q l) i j = ent c l (swp p q i) j := by
  unfold ent swapL
  by_cases hpq : p = q
  · subst hpq; rw [swapK_same]; unfold swp; split <;> simp_all
  · have hd : p * c + c ≤ q * c ∨ q * c + c ≤ p * c := by
      rcases Nat.lt_or_gt_of_ne hpq with h | h
      · left; exact row_fits h
      · right; exact row_fits h
    have hg := swapK_get (x := p * c) (y := q * c) (n := c) (l := l) hd (by rw [hl]; exact row_fits hp) (by rw [hl]; exact row_fits hq) j hj
    unfold swp
    by_cases h1 : i = p
    · subst h1; rw [if_pos rfl]; exact hg.1
    · by_cases h2 : i = q
      · subst h2; rw [if_neg h1, if_pos rfl]; exact hg.2
      · rw [if_neg h1, if_neg h2, swapK_far _ _ _ _ _ (row_apart hj h1) (row_apart hj h2)]
theorem ent_lt {c : Nat} {l : List Nat} (h : ∀ x ∈ l, x < 256) (i j : Nat) : ent c l i j < 256 := getD_lt' h _
theorem updL_all {g : Nat → Nat → Nat} {off : Nat} {l : List Nat} (hl : ∀ x ∈ l, x < 256) (hg : ∀ j x, x < 256 → g j x < 256) : ∀ n, ∀ x ∈ updL g off n l, x < 256
  | 0 => hl
  | n + 1 => by
    rw [updL_step]
    intro x hx
    rcases List.mem_or_eq_of_mem_set hx with h | h
    · exact updL_all hl hg n x h
    · rw [h]; exact hg _ _ (getD_lt' (updL_all hl hg n) _)
theorem swapK_all {a b : Nat} {l : List Nat} (hl : ∀ x ∈ l, x < 256) : ∀ n, ∀ x ∈ swapK a b n l, x < 256
  | 0 => hl
  | n + 1 => by
    rw [swapK_succ]
    intro x hx
    rcases List.mem_or_eq_of_mem_set hx with h | h
    · rcases List.mem_or_eq_of_mem_set h with h | h
      · exact swapK_all hl n x h
      · rw [h]; exact getD_lt' (swapK_all hl n) _
    · rw [h]; exact getD_lt' (swapK_all hl n) _
theorem scaleL_all {c k v : Nat} {l : List Nat} (hl : ∀ x ∈ l, x < 256) : ∀ x ∈ scaleL c k v l, x < 256 := updL_all hl (fun _ _ h => Gf.mul_lt _ h) _
theorem addL_all {c k q v : Nat} {l : List Nat} (hl : ∀ x ∈ l, x < 256) : ∀ x ∈ addL c k q v l, x < 256 := updL_all hl (fun _ _ h => Gf.xor_lt h (Gf.mul_lt _ (getD_lt' hl _))) _
theorem swapL_all {c p q : Nat} {l : List Nat} (hl : ∀ x ∈ l, x < 256) : ∀ x ∈ swapL c p q l, x < 256 := swapK_all hl _

/-- Rows cleared: each by its own number in column c. -/
theorem ent_clr {ca co c rk ra : Nat} {M O : List Nat} (hM : M.length = ra * ca) (hO : O.length = ra * co) (hc : c < ca) : ∀ n, n ≤ ra →
    (∀ i j, j < ca → ent ca (clrAll ca co c rk n (M, O)).1 i j = if i < n ∧ i ≠ rk then ent ca M i j ^^^ Gf.mul (ent ca M rk j) (ent ca M i c) else ent ca M i j) ∧
    (∀ i j, j < co → ent co (clrAll ca co c rk n (M, O)).2 i j = if i < n ∧ i ≠ rk then ent co O i j ^^^ Gf.mul (ent co O rk j) (ent ca M i c) else ent co O i j)
  | 0, _ => ⟨fun i j hj => by rw [if_neg (by omega)]; rfl, fun i j hj => by rw [if_neg (by omega)]; rfl⟩
  | n + 1, hn => by
    obtain ⟨ihM, ihO⟩ := ent_clr hM hO hc (rk := rk) n (by omega)
    have hlM := (clrAll_length ca co c rk n (M, O)).1.trans hM
    have hlO := (clrAll_length ca co c rk n (M, O)).2.trans hO
    rw [clrAll_succ, clrStep]
    by_cases hr : n = rk
    · rw [if_pos hr]
      exact ⟨fun i j hj => by
        rw [ihM i j hj]
        by_cases h : i < n ∧ i ≠ rk
        · rw [if_pos h, if_pos (by omega)]
        · rw [if_neg h, if_neg (by omega)], fun i j hj => by
        rw [ihO i j hj]
        by_cases h : i < n ∧ i ≠ rk
        · rw [if_pos h, if_pos (by omega)]
        · rw [if_neg h, if_neg (by omega)]⟩
    · rw [if_neg hr]
      have hco : ent ca (clrAll ca co c rk n (M, O)).1 n c = ent ca M n c := by rw [ihM n c hc, if_neg (by omega)]
      have hcoe : (clrAll ca co c rk n (M, O)).1.getD (n * ca + c) 0 = ent ca M n c := hco
      dsimp only
      rw [hcoe]
      exact ⟨fun i j hj => by
        rw [ent_add hlM (by omega) hj, ihM i j hj, ihM rk j hj, if_neg (show ¬ (rk < n ∧ rk ≠ rk) by omega)]
        by_cases h : i = n
        · subst h; rw [if_pos rfl, if_neg (by omega), if_pos (by omega)]
        · rw [if_neg h]
          by_cases h2 : i < n ∧ i ≠ rk
          · rw [if_pos h2, if_pos (by omega)]
          · rw [if_neg h2, if_neg (by omega)], fun i j hj => by
        rw [ent_add hlO (by omega) hj, ihO i j hj, ihO rk j hj, if_neg (show ¬ (rk < n ∧ rk ≠ rk) by omega)]
        by_cases h : i = n
        · subst h; rw [if_pos rfl, if_neg (by omega), if_pos (by omega)]
        · rw [if_neg h]
          by_cases h2 : i < n ∧ i ≠ rk
          · rw [if_pos h2, if_pos (by omega)]
          · rw [if_neg h2, if_neg (by omega)]⟩
theorem clrAll_all {ca co c rk : Nat} {M O : List Nat} (hM : ∀ x ∈ M, x < 256) (hO : ∀ x ∈ O, x < 256) : ∀ n, (∀ x ∈ (clrAll ca co c rk n (M, O)).1, x < 256) ∧ (∀ x ∈ (clrAll ca co c rk n (M, O)).2, x < 256)
  | 0 => ⟨hM, hO⟩
  | n + 1 => by
    have ih := clrAll_all (ca := ca) (co := co) (c := c) (rk := rk) hM hO n
    rw [clrAll_succ, clrStep]
    split
    · exact ih
    · exact ⟨addL_all ih.1, addL_all ih.2⟩
end Go.Proofs.Ytibinkppbdeofaa

/- What elimination keeps: the matrix is what lies beside it times what it was; its steps. -/

namespace Go.Proofs.Ytibinkppbdeofaa
set_option linter.unusedVariables false
set_option linter.unusedSimpArgs false

/-- While c columns were brought into steps. -/
structure Steps (ra ca co : Nat) (B : Nat → Nat → Nat) (c : Nat) (S : List Nat × List Nat × Nat) : Prop where
  lM : S.1.length = ra * ca
  lO : S.2.1.length = ra * co
  bM : ∀ x ∈ S.1, x < 256
  bO : ∀ x ∈ S.2.1, x < 256
  rk : S.2.2 ≤ ra
  prod : ∀ i j, i < ra → j < ca → ent ca S.1 i j = dot co (ent co S.2.1 i) (fun k => B k j)
  piv : ∃ pc : Nat → Nat, (∀ t, t < S.2.2 → pc t < c) ∧ (∀ s t, s < t → t < S.2.2 → pc s < pc t) ∧ ∀ i t, i < ra → t < S.2.2 → ent ca S.1 i (pc t) = if i = t then 1 else 0
  zero : ∀ i j, S.2.2 ≤ i → i < ra → j < c → ent ca S.1 i j = 0

theorem swp_ge {p q i : Nat} (hp : q ≤ p) (hi : q ≤ i) : q ≤ swp p q i := by unfold swp; split <;> (try split) <;> omega
theorem swp_low {p q i : Nat} (hp : q ≤ p) (hi : i < q) : swp p q i = i := by unfold swp; rw [if_neg (by omega), if_neg (by omega)]
theorem swp_at {p q : Nat} : swp p q q = p := by unfold swp; split <;> simp_all

theorem Steps.step {ra ca co c : Nat} {B : Nat → Nat → Nat} {S : List Nat × List Nat × Nat} (hB : ∀ k, B8 (B k)) (h : Steps ra ca co B c S) (hc : c < ca) : Steps ra ca co B (c + 1) (colStep ra ca co c S) := by
  obtain ⟨M, O, r⟩ := S
  obtain ⟨lM, lO, bM, bO, rk, prod, ⟨pc, pc1, pc2, pc3⟩, zero⟩ := h
  dsimp only at lM lO bM bO rk prod pc1 pc2 pc3 zero
  have hge := findP_ge M ca c (ra - r) r
  unfold colStep
  dsimp only
  by_cases hp : findP M ca c r (ra - r) < ra
  · rw [if_pos hp]
    have hne := findP_ne M ca c (ra - r) r (by omega)
    obtain ⟨p, hpe⟩ : ∃ p, p = findP M ca c r (ra - r) := ⟨_, rfl⟩
    rw [← hpe] at hp hge hne ⊢
    have hr : r < ra := by omega
    have lM1 : (swapL ca p r M).length = ra * ca := by rw [swapL_length]; exact lM
    have lO1 : (swapL co p r O).length = ra * co := by rw [swapL_length]; exact lO
    have bM1 := swapL_all (c := ca) (p := p) (q := r) bM
    have bO1 := swapL_all (c := co) (p := p) (q := r) bO
    obtain ⟨v, hv⟩ : ∃ v, v = Gf.inv ((swapL ca p r M).getD (r * ca + c) 0) := ⟨_, rfl⟩
    have hv256 : v < 256 := by rw [hv]; exact Gf.inv_lt _
    have eM1 : ∀ i j, j < ca → ent ca (swapL ca p r M) i j = ent ca M (swp p r i) j := fun i j hj => ent_swap lM hp hr hj
    have eO1 : ∀ i j, j < co → ent co (swapL co p r O) i j = ent co O (swp p r i) j := fun i j hj => ent_swap lO hp hr hj
    have hpv : (swapL ca p r M).getD (r * ca + c) 0 = ent ca M p c := by have := eM1 r c hc; rw [swp_at] at this; exact this
    have hv1 : Gf.mul (ent ca M p c) v = 1 := by rw [hv, hpv]; exact Gf.inv_mul (ent_lt bM _ _) hne
    have ePM : pivM ca c p r M = scaleL ca r v (swapL ca p r M) := by rw [pivM, ← hv]
    have ePO : pivO ca co c p r M O = scaleL co r v (swapL co p r O) := by rw [pivO, ← hv]
    rw [ePM, ePO]
    have lM2 : (scaleL ca r v (swapL ca p r M)).length = ra * ca := by rw [scaleL_length]; exact lM1
    have lO2 : (scaleL co r v (swapL co p r O)).length = ra * co := by rw [scaleL_length]; exact lO1
    have bM2 := scaleL_all (c := ca) (k := r) (v := v) bM1
    have bO2 := scaleL_all (c := co) (k := r) (v := v) bO1
    have eM2 : ∀ i j, j < ca → ent ca (scaleL ca r v (swapL ca p r M)) i j = if i = r then Gf.mul (ent ca M (swp p r i) j) v else ent ca M (swp p r i) j := fun i j hj => by rw [ent_scale lM1 hr hj, eM1 i j hj]
    have eO2 : ∀ i j, j < co → ent co (scaleL co r v (swapL co p r O)) i j = if i = r then Gf.mul (ent co O (swp p r i) j) v else ent co O (swp p r i) j := fun i j hj => by rw [ent_scale lO1 hr hj, eO1 i j hj]
    generalize scaleL ca r v (swapL ca p r M) = M2 at *
    generalize scaleL co r v (swapL co p r O) = O2 at *
    -- what the scaled rows are
    have prod2 : ∀ i j, i < ra → j < ca → ent ca M2 i j = dot co (ent co O2 i) (fun k => B k j) := fun i j hi hj => by
      have hBj : B8 (fun k => B k j) := fun k => hB k j
      have hs := swp_lt hp hr hi
      rw [eM2 i j hj]
      by_cases h : i = r
      · have e : dot co (ent co O2 i) (fun k => B k j) = dot co (fun k => Gf.mul v (ent co O (swp p r i) k)) (fun k => B k j) := dot_congr (fun k hk => by rw [eO2 i k hk, if_pos h, Gf.mul_comm (ent_lt bO _ _) hv256]) (fun _ _ => rfl)
        rw [if_pos h, prod _ j hs hj, e, dot_smul_left hv256 (ent_lt bO _) hBj, Gf.mul_comm (dot_lt (ent_lt bO _) _) hv256]
      · rw [if_neg h, prod _ j hs hj]
        exact dot_congr (fun k hk => by rw [eO2 i k hk, if_neg h]) (fun _ _ => rfl)
    have piv2 : ∀ i t, i < ra → t < r → ent ca M2 i (pc t) = if i = t then 1 else 0 := fun i t hi ht => by
      have hpt := pc1 t ht
      rw [eM2 i (pc t) (by omega)]
      by_cases h : i = r
      · rw [if_pos h, h, swp_at, pc3 p t hp ht, if_neg (by omega), if_neg (by omega), Gf.zero_mul _ hv256]
      · rw [if_neg h]
        by_cases hl : i < r
        · rw [swp_low hge.1 hl]; exact pc3 i t hi ht
        · rw [pc3 _ t (swp_lt hp hr hi) ht, if_neg (by have := swp_ge hge.1 (show r ≤ i by omega); omega), if_neg (by omega)]
    have zero2 : ∀ i j, r ≤ i → i < ra → j < c → ent ca M2 i j = 0 := fun i j hri hi hj => by
      have h0 := zero (swp p r i) j (swp_ge hge.1 hri) (swp_lt hp hr hi) hj
      rw [eM2 i j (by omega), h0]
      split
      · exact Gf.zero_mul _ hv256
      · rfl
    have one2 : ent ca M2 r c = 1 := by rw [eM2 r c hc, if_pos rfl, swp_at]; exact hv1
    obtain ⟨eM3, eO3⟩ := ent_clr (rk := r) lM2 lO2 hc ra (Nat.le_refl ra)
    have hb3 := clrAll_all (ca := ca) (co := co) (c := c) (rk := r) bM2 bO2 ra
    have hl3 := clrAll_length ca co c r ra (M2, O2)
    generalize clrAll ca co c r ra (M2, O2) = T at *
    obtain ⟨M3, O3⟩ := T
    dsimp only at eM3 eO3 hb3 hl3 ⊢
    refine ⟨hl3.1.trans lM2, hl3.2.trans lO2, hb3.1, hb3.2, hr, ?_, ⟨fun t => if t = r then c else pc t, ?_, ?_, ?_⟩, ?_⟩
    · intro i j hi hj
      have hBj : B8 (fun k => B k j) := fun k => hB k j
      rw [eM3 i j hj]
      by_cases h : i < ra ∧ i ≠ r
      · rw [if_pos h, prod2 i j hi hj, prod2 r j hr hj]
        have hcf : ent ca M2 i c < 256 := ent_lt bM2 i c
        have e : dot co (ent co O3 i) (fun k => B k j) = dot co (fun k => ent co O2 i k ^^^ Gf.mul (ent ca M2 i c) (ent co O2 r k)) (fun k => B k j) := dot_congr (fun k hk => by rw [eO3 i k hk, if_pos h, Gf.mul_comm (ent_lt bO2 _ _) hcf]) (fun _ _ => rfl)
        rw [e, dot_add_left (ent_lt bO2 _) (fun k => Gf.mul_lt _ hcf), dot_smul_left hcf (ent_lt bO2 _) hBj, Gf.mul_comm (dot_lt (ent_lt bO2 _) _) hcf]
      · rw [if_neg h, prod2 i j hi hj]
        exact dot_congr (fun k hk => by rw [eO3 i k hk, if_neg h]) (fun _ _ => rfl)
    · intro t ht
      dsimp only at ht ⊢
      split
      · omega
      · have := pc1 t (by omega); omega
    · intro s t hst ht
      dsimp only at ht ⊢
      rw [if_neg (show s ≠ r by omega)]
      by_cases h : t = r
      · rw [if_pos h]; exact pc1 s (by omega)
      · rw [if_neg h]; exact pc2 s t hst (by omega)
    · intro i t hi ht
      dsimp only at ht ⊢
      by_cases htr : t = r
      · rw [if_pos htr, eM3 i c hc]
        by_cases h : i < ra ∧ i ≠ r
        · rw [if_pos h, one2, Gf.one_mul _ (ent_lt bM2 _ _), Nat.xor_self, if_neg (by omega)]
        · have : i = r := by omega
          rw [if_neg h, this, one2, if_pos htr.symm]
      · have hpt := pc1 t (by omega)
        rw [if_neg htr, eM3 i (pc t) (by omega)]
        by_cases h : i < ra ∧ i ≠ r
        · rw [if_pos h, piv2 r t hr (by omega), if_neg (show ¬ r = t by omega), Gf.zero_mul _ (ent_lt bM2 _ _), Nat.xor_zero]; exact piv2 i t hi (by omega)
        · rw [if_neg h]; exact piv2 i t hi (by omega)
    · intro i j hri hi hj
      dsimp only at hri
      by_cases hjc : j = c
      · rw [hjc, eM3 i c hc, if_pos (by omega), one2, Gf.one_mul _ (ent_lt bM2 _ _), Nat.xor_self]
      · rw [eM3 i j (by omega), if_pos (by omega), zero2 r j (Nat.le_refl r) hr (by omega), Gf.zero_mul _ (ent_lt bM2 _ _), Nat.xor_zero]
        exact zero2 i j (by omega) hi (by omega)
  · rw [if_neg hp]
    refine ⟨lM, lO, bM, bO, rk, prod, ⟨pc, fun t ht => by have := pc1 t ht; omega, pc2, pc3⟩, fun i j hri hi hj => ?_⟩
    dsimp only at hri ⊢
    by_cases hjc : j = c
    · rw [hjc]
      exact findP_zero M ca c (ra - r) r i hri (by omega)
    · exact zero i j hri hi (by omega)

theorem steps_all {ra ca co : Nat} {B : Nat → Nat → Nat} {M O : List Nat} (hB : ∀ k, B8 (B k)) (lM : M.length = ra * ca) (lO : O.length = ra * co) (bM : ∀ x ∈ M, x < 256) (bO : ∀ x ∈ O, x < 256)
    (prod : ∀ i j, i < ra → j < ca → ent ca M i j = dot co (ent co O i) (fun k => B k j)) : ∀ c, c ≤ ca → Steps ra ca co B c (elim ra ca co M O c)
  | 0, _ => ⟨lM, lO, bM, bO, Nat.zero_le _, prod, ⟨fun t => t, fun t ht => by simp [elim_zero] at ht, fun s t _ ht => by simp [elim_zero] at ht, fun i t _ ht => by simp [elim_zero] at ht⟩, fun i j _ _ hj => by omega⟩
  | c + 1, hc => by rw [elim_succ]; exact (steps_all hB lM lO bM bO prod c (by omega)).step hB (by omega)

/-- The rank of a product is no more than the width between. -/
theorem rankL_product {ra ca f : Nat} {al bs : List Nat} {P : List Nat} (lP : P.length = ra * ca) (lA : al.length = ra * f) (bA : ∀ x ∈ al, x < 256) (bB : ∀ x ∈ bs, x < 256) (bP : ∀ x ∈ P, x < 256)
    (h : ∀ i j, i < ra → j < ca → ent ca P i j = dot f (ent f al i) (fun k => ent ca bs k j)) : rankL ra ca P ≤ f := by
  have hs := steps_all (B := fun k j => ent ca bs k j) (fun k j => ent_lt bB k j) lP lA bP bA h ca (Nat.le_refl ca)
  rw [← rankL_of ra ca f P al]
  obtain ⟨lM, lO, bM, bO, rk, prod, ⟨pc, pc1, pc2, pc3⟩, zero⟩ := hs
  refine id_le f _ (fun i => ent f (elim ra ca f P al ca).2.1 i) (fun k t => ent ca bs k (if t < (elim ra ca f P al ca).2.2 then pc t else 0)) (fun i k => ent_lt bO i k) (fun k t => ent_lt bB k _) (fun i t hi ht => ?_)
  have := prod i (pc t) (by omega) (pc1 t ht)
  rw [pc3 i t (by omega) ht] at this
  rw [this]
  exact dot_congr (fun _ _ => rfl) (fun k _ => by rw [if_pos ht])
end Go.Proofs.Ytibinkppbdeofaa
