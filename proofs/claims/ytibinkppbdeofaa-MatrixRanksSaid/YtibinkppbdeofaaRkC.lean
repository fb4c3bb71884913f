/- What elimination keeps: the matrix is what lies beside it times what it was; its steps. -/
import Derived.Test.YtibinkppbdeofaaRkB
import Derived.Test.YtibinkppbdeofaaMxA
namespace Go.Proofs.Ytibinkppbdeofaa
set_option linter.unusedVariables false
set_option linter.unusedSimpArgs false

/-- While c columns were brought into steps. -/
structure Steps (ra ca co : Nat) (B : Nat → Nat → Nat) (c : Nat) (S : List Nat × List Nat × Nat) : Prop where
  lM : S.1.length = ra * ca
  lO : S.2.1.length = ra * co
  bM : ∀ x ∈ S.1, x < 256
  bO : ∀ x ∈ S.2.1, x < 256
  rk : S.2.2 ≤ ra
  prod : ∀ i j, i < ra → j < ca → ent ca S.1 i j = dot co (ent co S.2.1 i) (fun k => B k j)
  piv : ∃ pc : Nat → Nat, (∀ t, t < S.2.2 → pc t < c) ∧ (∀ s t, s < t → t < S.2.2 → pc s < pc t) ∧ ∀ i t, i < ra → t < S.2.2 → ent ca S.1 i (pc t) = if i = t then 1 else 0
  zero : ∀ i j, S.2.2 ≤ i → i < ra → j < c → ent ca S.1 i j = 0

theorem swp_ge {p q i : Nat} (hp : q ≤ p) (hi : q ≤ i) : q ≤ swp p q i := by unfold swp; split <;> (try split) <;> omega
theorem swp_low {p q i : Nat} (hp : q ≤ p) (hi : i < q) : swp p q i = i := by unfold swp; rw [if_neg (by omega), if_neg (by omega)]
theorem swp_at {p q : Nat} : swp p q q = p := by unfold swp; split <;> simp_all

theorem Steps.step {ra ca co c : Nat} {B : Nat → Nat → Nat} {S : List Nat × List Nat × Nat} (hB : ∀ k, B8 (B k)) (h : Steps ra ca co B c S) (hc : c < ca) : Steps ra ca co B (c + 1) (colStep ra ca co c S) := by
  obtain ⟨M, O, r⟩ := S
  obtain ⟨lM, lO, bM, bO, rk, prod, ⟨pc, pc1, pc2, pc3⟩, zero⟩ := h
  dsimp only at lM lO bM bO rk prod pc1 pc2 pc3 zero
  have hge := findP_ge M ca c (ra - r) r
  unfold colStep
  dsimp only
  by_cases hp : findP M ca c r (ra - r) < ra
  · rw [if_pos hp]
    have hne := findP_ne M ca c (ra - r) r (by omega)
    obtain ⟨p, hpe⟩ : ∃ p, p = findP M ca c r (ra - r) := ⟨_, rfl⟩
    rw [← hpe] at hp hge hne ⊢
    have hr : r < ra := by omega
    have lM1 : (swapL ca p r M).length = ra * ca := by rw [swapL_length]; exact lM
    have lO1 : (swapL co p r O).length = ra * co := by rw [swapL_length]; exact lO
    have bM1 := swapL_all (c := ca) (p := p) (q := r) bM
    have bO1 := swapL_all (c := co) (p := p) (q := r) bO
    obtain ⟨v, hv⟩ : ∃ v, v = Gf.inv ((swapL ca p r M).getD (r * ca + c) 0) := ⟨_, rfl⟩
    have hv256 : v < 256 := by rw [hv]; exact Gf.inv_lt _
    have eM1 : ∀ i j, j < ca → ent ca (swapL ca p r M) i j = ent ca M (swp p r i) j := fun i j hj => ent_swap lM hp hr hj
    have eO1 : ∀ i j, j < co → ent co (swapL co p r O) i j = ent co O (swp p r i) j := fun i j hj => ent_swap lO hp hr hj
    have hpv : (swapL ca p r M).getD (r * ca + c) 0 = ent ca M p c := by have := eM1 r c hc; rw [swp_at] at this; exact this
    have hv1 : Gf.mul (ent ca M p c) v = 1 := by rw [hv, hpv]; exact Gf.inv_mul (ent_lt bM _ _) hne
    have ePM : pivM ca c p r M = scaleL ca r v (swapL ca p r M) := by rw [pivM, ← hv]
    have ePO : pivO ca co c p r M O = scaleL co r v (swapL co p r O) := by rw [pivO, ← hv]
    rw [ePM, ePO]
    have lM2 : (scaleL ca r v (swapL ca p r M)).length = ra * ca := by rw [scaleL_length]; exact lM1
    have lO2 : (scaleL co r v (swapL co p r O)).length = ra * co := by rw [scaleL_length]; exact lO1
    have bM2 := scaleL_all (c := ca) (k := r) (v := v) bM1
    have bO2 := scaleL_all (c := co) (k := r) (v := v) bO1
    have eM2 : ∀ i j, j < ca → ent ca (scaleL ca r v (swapL ca p r M)) i j = if i = r then Gf.mul (ent ca M (swp p r i) j) v else ent ca M (swp p r i) j := fun i j hj => by rw [ent_scale lM1 hr hj, eM1 i j hj]
    have eO2 : ∀ i j, j < co → ent co (scaleL co r v (swapL co p r O)) i j = if i = r then Gf.mul (ent co O (swp p r i) j) v else ent co O (swp p r i) j := fun i j hj => by rw [ent_scale lO1 hr hj, eO1 i j hj]
    generalize scaleL ca r v (swapL ca p r M) = M2 at *
    generalize scaleL co r v (swapL co p r O) = O2 at *
    -- what the scaled rows are
    have prod2 : ∀ i j, i < ra → j < ca → ent ca M2 i j = dot co (ent co O2 i) (fun k => B k j) := fun i j hi hj => by
      have hBj : B8 (fun k => B k j) := fun k => hB k j
      have hs := swp_lt hp hr hi
      rw [eM2 i j hj]
      by_cases h : i = r
      · have e : dot co (ent co O2 i) (fun k => B k j) = dot co (fun k => Gf.mul v (ent co O (swp p r i) k)) (fun k => B k j) := dot_congr (fun k hk => by rw [eO2 i k hk, if_pos h, Gf.mul_comm (ent_lt bO _ _) hv256]) (fun _ _ => rfl)
        rw [if_pos h, prod _ j hs hj, e, dot_smul_left hv256 (ent_lt bO _) hBj, Gf.mul_comm (dot_lt (ent_lt bO _) _) hv256]
      · rw [if_neg h, prod _ j hs hj]
        exact dot_congr (fun k hk => by rw [eO2 i k hk, if_neg h]) (fun _ _ => rfl)
    have piv2 : ∀ i t, i < ra → t < r → ent ca M2 i (pc t) = if i = t then 1 else 0 := fun i t hi ht => by
      have hpt := pc1 t ht
      rw [eM2 i (pc t) (by omega)]
      by_cases h : i = r
      · rw [if_pos h, h, swp_at, pc3 p t hp ht, if_neg (by omega), if_neg (by omega), Gf.zero_mul _ hv256]
      · rw [if_neg h]
        by_cases hl : i < r
        · rw [swp_low hge.1 hl]; exact pc3 i t hi ht
        · rw [pc3 _ t (swp_lt hp hr hi) ht, if_neg (by have := swp_ge hge.1 (show r ≤ i by omega); omega), if_neg (by omega)]
    have zero2 : ∀ i j, r ≤ i → i < ra → j < c → ent ca M2 i j = 0 := fun i j hri hi hj => by
      have h0 := zero (swp p r i) j (swp_ge hge.1 hri) (swp_lt hp hr hi) hj
      rw [eM2 i j (by omega), h0]
      split
      · exact Gf.zero_mul _ hv256
      · rfl
    have one2 : ent ca M2 r c = 1 := by rw [eM2 r c hc, if_pos rfl, swp_at]; exact hv1
    obtain ⟨eM3, eO3⟩ := ent_clr (rk := r) lM2 lO2 hc ra (Nat.le_refl ra)
    have hb3 := clrAll_all (ca := ca) (co := co) (c := c) (rk := r) bM2 bO2 ra
    have hl3 := clrAll_length ca co c r ra (M2, O2)
    generalize clrAll ca co c r ra (M2, O2) = T at *
    obtain ⟨M3, O3⟩ := T
    dsimp only at eM3 eO3 hb3 hl3 ⊢
    refine ⟨hl3.1.trans lM2, hl3.2.trans lO2, hb3.1, hb3.2, hr, ?_, ⟨fun t => if t = r then c else pc t, ?_, ?_, ?_⟩, ?_⟩
    · intro i j hi hj
      have hBj : B8 (fun k => B k j) := fun k => hB k j
      rw [eM3 i j hj]
      by_cases h : i < ra ∧ i ≠ r
      · rw [if_pos h, prod2 i j hi hj, prod2 r j hr hj]
        have hcf : ent ca M2 i c < 256 := ent_lt bM2 i c
        have e : dot co (ent co O3 i) (fun k => B k j) = dot co (fun k => ent co O2 i k ^^^ Gf.mul (ent ca M2 i c) (ent co O2 r k)) (fun k => B k j) := dot_congr (fun k hk => by rw [eO3 i k hk, if_pos h, Gf.mul_comm (ent_lt bO2 _ _) hcf]) (fun _ _ => rfl)
        rw [e, dot_add_left (ent_lt bO2 _) (fun k => Gf.mul_lt _ hcf), dot_smul_left hcf (ent_lt bO2 _) hBj, Gf.mul_comm (dot_lt (ent_lt bO2 _) _) hcf]
      · rw [if_neg h, prod2 i j hi hj]
        exact dot_congr (fun k hk => by rw [eO3 i k hk, if_neg h]) (fun _ _ => rfl)
    · intro t ht
      dsimp only at ht ⊢
      split
      · omega
      · have := pc1 t (by omega); omega
    · intro s t hst ht
      dsimp only at ht ⊢
      rw [if_neg (show s ≠ r by omega)]
      by_cases h : t = r
      · rw [if_pos h]; exact pc1 s (by omega)
      · rw [if_neg h]; exact pc2 s t hst (by omega)
    · intro i t hi ht
      dsimp only at ht ⊢
      by_cases htr : t = r
      · rw [if_pos htr, eM3 i c hc]
        by_cases h : i < ra ∧ i ≠ r
        · rw [if_pos h, one2, Gf.one_mul _ (ent_lt bM2 _ _), Nat.xor_self, if_neg (by omega)]
        · have : i = r := by omega
          rw [if_neg h, this, one2, if_pos htr.symm]
      · have hpt := pc1 t (by omega)
        rw [if_neg htr, eM3 i (pc t) (by omega)]
        by_cases h : i < ra ∧ i ≠ r
        · rw [if_pos h, piv2 r t hr (by omega), if_neg (show ¬ r = t by omega), Gf.zero_mul _ (ent_lt bM2 _ _), Nat.xor_zero]; exact piv2 i t hi (by omega)
        · rw [if_neg h]; exact piv2 i t hi (by omega)
    · intro i j hri hi hj
      dsimp only at hri
      by_cases hjc : j = c
      · rw [hjc, eM3 i c hc, if_pos (by omega), one2, Gf.one_mul _ (ent_lt bM2 _ _), Nat.xor_self]
      · rw [eM3 i j (by omega), if_pos (by omega), zero2 r j (Nat.le_refl r) hr (by omega), Gf.zero_mul _ (ent_lt bM2 _ _), Nat.xor_zero]
        exact zero2 i j (by omega) hi (by omega)
  · rw [if_neg hp]
    refine ⟨lM, lO, bM, bO, rk, prod, ⟨pc, fun t ht => by have := pc1 t ht; omega, pc2, pc3⟩, fun i j hri hi hj => ?_⟩
    dsimp only at hri ⊢
    by_cases hjc : j = c
    · rw [hjc]
      exact findP_zero M ca c (ra - r) r i hri (by omega)
    · exact zero i j hri hi (by omega)

theorem steps_all {ra ca co : Nat} {B : Nat → Nat → Nat} {M O : List Nat} (hB : ∀ k, B8 (B k)) (lM : M.length = ra * ca) (lO : O.length = ra * co) (bM : ∀ x ∈ M, x < 256) (bO : ∀ x ∈ O, x < 256)
    (prod : ∀ i j, i < ra → j < ca → ent ca M i j = dot co (ent co O i) (fun k => B k j)) : ∀ c, c ≤ ca → Steps ra ca co B c (elim ra ca co M O c)
  | 0, _ => ⟨lM, lO, bM, bO, Nat.zero_le _, prod, ⟨fun t => t, fun t ht => by simp [elim_zero] at ht, fun s t _ ht => by simp [elim_zero] at ht, fun i t _ ht => by simp [elim_zero] at ht⟩, fun i j _ _ hj => by omega⟩
  | c + 1, hc => by rw [elim_succ]; exact (steps_all hB lM lO bM bO prod c (by omega)).step hB (by omega)

/-- The rank of a product is no more than the width between. -/
theorem rankL_product {ra ca f : Nat} {al bs : List Nat} {P : List Nat} (lP : P.length = ra * ca) (lA : al.length = ra * f) (bA : ∀ x ∈ al, x < 256) (bB : ∀ x ∈ bs, x < 256) (bP : ∀ x ∈ P, x < 256)
    (h : ∀ i j, i < ra → j < ca → ent ca P i j = dot f (ent f al i) (fun k => ent ca bs k j)) : rankL ra ca P ≤ f := by
  have hs := steps_all (B := fun k j => ent ca bs k j) (fun k j => ent_lt bB k j) lP lA bP bA h ca (Nat.le_refl ca)
  rw [← rankL_of ra ca f P al]
  obtain ⟨lM, lO, bM, bO, rk, prod, ⟨pc, pc1, pc2, pc3⟩, zero⟩ := hs
  refine id_le f _ (fun i => ent f (elim ra ca f P al ca).2.1 i) (fun k t => ent ca bs k (if t < (elim ra ca f P al ca).2.2 then pc t else 0)) (fun i k => ent_lt bO i k) (fun k t => ent_lt bB k _) (fun i t hi ht => ?_)
  have := prod i (pc t) (by omega) (pc1 t ht)
  rw [pc3 i t (by omega) ht] at this
  rw [this]
  exact dot_congr (fun _ _ => rfl) (fun k _ => by rw [if_pos ht])
end Go.Proofs.Ytibinkppbdeofaa
