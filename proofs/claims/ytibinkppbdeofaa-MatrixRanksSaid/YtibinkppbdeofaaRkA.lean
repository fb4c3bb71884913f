/- Sums of products over the field; where one is a product of two, they are as wide. -/
import Derived.Test.YtibinkppbdeofaaMatP
namespace Go.Proofs.Ytibinkppbdeofaa
set_option linter.unusedVariables false
set_option linter.unusedSimpArgs false

/-- A sum of products. -/
def dot (f : Nat) (u v : Nat → Nat) : Nat := (List.range f).foldl (fun a k => a ^^^ Gf.mul (u k) (v k)) 0
theorem dot_zero (u v : Nat → Nat) : dot 0 u v = 0 := rfl
theorem dot_succ (f : Nat) (u v : Nat → Nat) : dot (f + 1) u v = dot f u v ^^^ Gf.mul (u f) (v f) := by rw [dot, List.range_succ, List.foldl_append]; rfl
/-- Whose numbers are all below 256. -/
def B8 (u : Nat → Nat) : Prop := ∀ k, u k < 256
theorem dot_lt {u v : Nat → Nat} (hu : B8 u) : ∀ f, dot f u v < 256
  | 0 => by rw [dot_zero]; decide
  | f + 1 => by rw [dot_succ]; exact Gf.xor_lt (dot_lt hu f) (Gf.mul_lt _ (hu f))
theorem dot_congr {f : Nat} {u u' v v' : Nat → Nat} (h : ∀ k, k < f → u k = u' k) (h' : ∀ k, k < f → v k = v' k) : dot f u v = dot f u' v' := by
  induction f with
  | zero => rfl
  | succ f ih => rw [dot_succ, dot_succ, ih (fun k hk => h k (by omega)) (fun k hk => h' k (by omega)), h f (by omega), h' f (by omega)]
theorem xor_four (a b c d : Nat) : (a ^^^ b) ^^^ (c ^^^ d) = (a ^^^ c) ^^^ (b ^^^ d) := by
  rw [Nat.xor_assoc, Nat.xor_assoc, ← Nat.xor_assoc b c d, Nat.xor_comm b c, Nat.xor_assoc c b d]
theorem dot_add_left {u u' v : Nat → Nat} (hu : B8 u) (hu' : B8 u') : ∀ f, dot f (fun k => u k ^^^ u' k) v = dot f u v ^^^ dot f u' v
  | 0 => by rw [dot_zero, dot_zero, dot_zero]; rfl
  | f + 1 => by
    rw [dot_succ, dot_succ, dot_succ, dot_add_left hu hu' f, Gf.mul_xor_left _ (hu f) (hu' f), xor_four]
theorem dot_add_right {u v v' : Nat → Nat} (hu : B8 u) (hv : B8 v) (hv' : B8 v') : ∀ f, dot f u (fun k => v k ^^^ v' k) = dot f u v ^^^ dot f u v'
  | 0 => by rw [dot_zero, dot_zero, dot_zero]; rfl
  | f + 1 => by
    rw [dot_succ, dot_succ, dot_succ, dot_add_right hu hv hv' f, Gf.mul_xor_right (hu f) (hv f) (hv' f), xor_four]
theorem dot_smul_left {c : Nat} {u v : Nat → Nat} (hc : c < 256) (hu : B8 u) (hv : B8 v) : ∀ f, dot f (fun k => Gf.mul c (u k)) v = Gf.mul c (dot f u v)
  | 0 => by rw [dot_zero, dot_zero, Gf.mul_zero]
  | f + 1 => by
    rw [dot_succ, dot_succ, dot_smul_left hc hu hv f, Gf.mul_assoc hc (hu f) (hv f), Gf.mul_xor_right hc (dot_lt hu f) (Gf.mul_lt _ (hu f))]
theorem dot_smul_right {c : Nat} {u v : Nat → Nat} (hc : c < 256) (hu : B8 u) (hv : B8 v) : ∀ f, dot f u (fun k => Gf.mul c (v k)) = Gf.mul c (dot f u v)
  | 0 => by rw [dot_zero, dot_zero, Gf.mul_zero]
  | f + 1 => by
    rw [dot_succ, dot_succ, dot_smul_right hc hu hv f, ← Gf.mul_assoc (hu f) hc (hv f), Gf.mul_comm (hu f) hc, Gf.mul_assoc hc (hu f) (hv f), Gf.mul_xor_right hc (dot_lt hu f) (Gf.mul_lt _ (hu f))]
theorem dot_none_left {u v : Nat → Nat} (hv : B8 v) {f : Nat} (h : ∀ k, k < f → u k = 0) : dot f u v = 0 := by
  induction f with
  | zero => rfl
  | succ f ih => rw [dot_succ, ih (fun k hk => h k (by omega)), h f (by omega), Gf.zero_mul _ (hv f)]; rfl
theorem dot_none_right {u v : Nat → Nat} {f : Nat} (h : ∀ k, k < f → v k = 0) : dot f u v = 0 := by
  induction f with
  | zero => rfl
  | succ f ih => rw [dot_succ, ih (fun k hk => h k (by omega)), h f (by omega), Gf.mul_zero]; rfl
theorem dot_one_left {v : Nat → Nat} (hv : B8 v) {f i : Nat} (h : i < f) : dot f (fun k => if i = k then 1 else 0) v = v i := by
  induction f with
  | zero => omega
  | succ f ih =>
    rw [dot_succ]
    by_cases hi : i = f
    · subst hi
      rw [dot_none_left hv (fun k hk => if_neg (by omega)), if_pos rfl, Gf.one_mul _ (hv i), Nat.zero_xor]
    · rw [ih (by omega), if_neg hi, Gf.zero_mul _ (hv f), Nat.xor_zero]
theorem dot_one_right {u : Nat → Nat} (hu : B8 u) {f i : Nat} (h : i < f) : dot f u (fun k => if k = i then 1 else 0) = u i := by
  induction f with
  | zero => omega
  | succ f ih =>
    rw [dot_succ]
    by_cases hi : i = f
    · subst hi
      rw [dot_none_right (fun k hk => if_neg (by omega)), if_pos rfl, Gf.mul_one _ (hu i), Nat.zero_xor]
    · rw [ih (by omega), if_neg (fun e => hi e.symm), Gf.mul_zero, Nat.xor_zero]
/-- Brackets of a product of three. -/
theorem dot_dot {u : Nat → Nat} {A : Nat → Nat → Nat} {v : Nat → Nat} (hu : B8 u) (hA : ∀ i, B8 (A i)) (hv : B8 v) (g : Nat) : ∀ f, dot g (fun j => dot f u (fun k => A k j)) v = dot f u (fun k => dot g (A k) v)
  | 0 => by rw [dot_zero]; exact dot_none_left hv (fun _ _ => rfl)
  | f + 1 => by
    rw [dot_succ, ← dot_dot hu hA hv g f]
    have e : dot g (fun j => dot (f + 1) u (fun k => A k j)) v = dot g (fun j => dot f u (fun k => A k j) ^^^ Gf.mul (u f) (A f j)) v := dot_congr (fun k _ => dot_succ _ _ _) (fun _ _ => rfl)
    rw [e, dot_add_left (fun k => dot_lt hu f) (fun k => Gf.mul_lt _ (hu f)), dot_smul_left (hu f) (hA f) hv]

/-- The row and the column changed to the last place. -/
def swp (a b k : Nat) : Nat := if k = a then b else if k = b then a else k
theorem swp_swp (a b k : Nat) : swp a b (swp a b k) = k := by
  unfold swp
  by_cases h1 : k = a
  · subst h1
    by_cases h2 : b = k
    · simp [h2]
    · simp [h2]
  · by_cases h2 : k = b
    · subst h2; simp [h1]
    · simp [h1, h2]
theorem swp_lt {a b k r : Nat} (ha : a < r) (hb : b < r) (hk : k < r) : swp a b k < r := by unfold swp; split <;> (try split) <;> omega
theorem swp_inj {a b i j : Nat} : swp a b i = swp a b j ↔ i = j := ⟨fun h => by rw [← swp_swp a b i, h, swp_swp], fun h => by rw [h]⟩

/-- If a product over f is one of r, then r is no more than f. -/
theorem id_le : ∀ (f r : Nat) (X Y : Nat → Nat → Nat), (∀ i, B8 (X i)) → (∀ k, B8 (Y k)) → (∀ i j, i < r → j < r → dot f (X i) (fun k => Y k j) = if i = j then 1 else 0) → r ≤ f
  | 0, r, X, Y, hX, hY, h => by
    cases r with
    | zero => exact Nat.le_refl 0
    | succ r => have := h 0 0 (by omega) (by omega); rw [dot_zero, if_pos rfl] at this; omega
  | f + 1, 0, X, Y, hX, hY, h => Nat.zero_le _
  | f + 1, r + 1, X, Y, hX, hY, h => by
    by_cases hz : ∃ i, i < r + 1 ∧ X i f ≠ 0
    · obtain ⟨i0, hi0, hne⟩ := hz
      -- the row with a number in the last column is the last one
      have hs : ∀ i, i < r → swp i0 r i ≠ i0 := fun i hi e => by
        have : swp i0 r i = swp i0 r r := by rw [e]; unfold swp; split <;> simp_all
        rw [swp_inj] at this; omega
      have hs0 : swp i0 r r = i0 := by unfold swp; split <;> simp_all
      obtain ⟨v, hv⟩ : ∃ v, v = Gf.inv (X i0 f) := ⟨_, rfl⟩
      have hv256 : v < 256 := by rw [hv]; exact Gf.inv_lt _
      have hvx : Gf.mul v (X i0 f) = 1 := by rw [hv]; exact Gf.mul_inv (hX i0 f) hne
      have hc : ∀ i, Gf.mul (X (swp i0 r i) f) v < 256 := fun i => Gf.mul_lt _ (hX _ f)
      have := id_le f r (fun i k => X (swp i0 r i) k ^^^ Gf.mul (Gf.mul (X (swp i0 r i) f) v) (X i0 k)) (fun k j => Y k (swp i0 r j))
        (fun i k => Gf.xor_lt (hX _ k) (Gf.mul_lt _ (hc i))) (fun k j => hY k _) (fun i j hi hj => by
          have hY' : B8 (fun k => Y k (swp i0 r j)) := fun k => hY k _
          have hsub : B8 (fun k => Gf.mul (Gf.mul (X (swp i0 r i) f) v) (X i0 k)) := fun k => Gf.mul_lt _ (hc i)
          have e1 := h (swp i0 r i) (swp i0 r j) (swp_lt hi0 (by omega) (by omega)) (swp_lt hi0 (by omega) (by omega))
          have e2 := h i0 (swp i0 r j) hi0 (swp_lt hi0 (by omega) (by omega))
          rw [if_neg (fun e => hs j hj e.symm)] at e2
          have e3 : dot (f + 1) (fun k => X (swp i0 r i) k ^^^ Gf.mul (Gf.mul (X (swp i0 r i) f) v) (X i0 k)) (fun k => Y k (swp i0 r j)) = if swp i0 r i = swp i0 r j then 1 else 0 := by
            rw [dot_add_left (hX _) hsub, dot_smul_left (hc i) (hX i0) hY', e1, e2, Gf.mul_zero, Nat.xor_zero]
          rw [dot_succ] at e3
          have e4 : X (swp i0 r i) f ^^^ Gf.mul (Gf.mul (X (swp i0 r i) f) v) (X i0 f) = 0 := by
            rw [Gf.mul_assoc (hX _ f) hv256 (hX i0 f), hvx, Gf.mul_one _ (hX _ f), Nat.xor_self]
          rw [e4, Gf.zero_mul _ (hY f _), Nat.xor_zero] at e3
          rw [e3]
          by_cases hij : i = j
          · rw [hij]
            rw [if_pos rfl, if_pos rfl]
          · rw [if_neg hij, if_neg (fun e => hij (swp_inj.1 e))])
      omega
    · have hz' : ∀ i, i < r + 1 → X i f = 0 := fun i hi => Classical.byContradiction fun hne => hz ⟨i, hi, hne⟩
      have := id_le f (r + 1) X Y hX hY (fun i j hi hj => by
        have e := h i j hi hj
        rw [dot_succ, hz' i hi, Gf.zero_mul _ (hY f j), Nat.xor_zero] at e
        exact e)
      omega
end Go.Proofs.Ytibinkppbdeofaa
