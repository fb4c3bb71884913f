/- matrix.Rank, siloref1.Rank, walked. -/
import Derived.Test.YtijcmdcjjcemfaaPkA10
import Derived.Test.YtijcmdcjjcemfaaPkA11
import Derived.Test.YtijcmdcjjcemfaaPkA06
import Derived.Deep.RegionHeld3
import Derived.Test.YtijcmdcjjcemfaaPkA08
namespace Go.Proofs.Ytijcmdcjjcemfaa
open Go.ChangeShapes Go.WideShapes Go.ChangeAt Go.RowKit Go.Joins Go.Shelf
set_option linter.unusedVariables false
set_option linter.unusedSimpArgs false

theorem clrAll_fst (ca co co' c rank n : Nat) (M O O' : List Nat) : (clrAll ca co c rank n (M, O)).1 = (clrAll ca co' c rank n (M, O')).1 := by
  induction n with
  | zero => rfl
  | succ n ih =>
    rw [clrAll_succ, clrAll_succ, clrStep, clrStep]
    split
    · exact ih
    · dsimp only; rw [ih]
theorem elim_indep (ra ca co co' : Nat) (M O O' : List Nat) (n : Nat) : (elim ra ca co M O n).1 = (elim ra ca co' M O' n).1 ∧ (elim ra ca co M O n).2.2 = (elim ra ca co' M O' n).2.2 := by
  induction n with
  | zero => exact ⟨rfl, rfl⟩
  | succ n ih =>
    rw [elim_succ, elim_succ]
    generalize elim ra ca co M O n = S at *
    generalize elim ra ca co' M O' n = T at *
    obtain ⟨S1, S2, S3⟩ := S
    obtain ⟨T1, T2, T3⟩ := T
    obtain ⟨e1, e2⟩ := ih
    dsimp only at e1 e2
    subst e1 e2
    unfold colStep
    dsimp only
    split
    · exact ⟨clrAll_fst _ _ _ _ _ _ _ _ _, rfl⟩
    · exact ⟨rfl, rfl⟩
/-- The rank. -/
def rankL (ra ca : Nat) (ns : List Nat) : Nat := (elim ra ca 1 ns [] ca).2.2
theorem rankL_of (ra ca co : Nat) (ns O : List Nat) : (elim ra ca co ns O ca).2.2 = rankL ra ca ns := (elim_indep ra ca co 1 ns O [] ca).2
theorem rankL_le (ra ca : Nat) (ns : List Nat) : rankL ra ca ns ≤ ra ∧ rankL ra ca ns ≤ ca := elim_rank ra ca 1 ns [] ca

theorem solve_at (ra ca co B1 B2 n1 n2 k1 k2 : Nat) (M O : List Nat) (w : World) (h1 : BytesBlk w B1 M) (h2 : BytesBlk w B2 O) (hB1 : B1 < w.heap.size) (hB2 : B2 < w.heap.size) (hne : B1 ≠ B2)
    (hn1 : n1 = M.length) (hn2 : n2 = O.length) (hM : M.length = ra * ca) (hO : O.length = ra * co) (r1 : 1 ≤ ra) (r16 : ra ≤ 16) (c1 : 1 ≤ ca) (c16 : ca ≤ 16) (o1 : 1 ≤ co) (o16 : co ≤ 16) (hk1 : n1 ≤ k1) (hk1' : k1 ≤ 9223372036854775807) (hk2 : n2 ≤ k2) (hk2' : k2 ≤ 9223372036854775807) :
    Calls Try.prog 75 #[matV (ra : Int) (ca : Int) (.slice (some ⟨B1, 0, none⟩) n1 k1), matV (ra : Int) (co : Int) (.slice (some ⟨B2, 0, none⟩) n2 k2)] w fun e w' =>
      e = .returned (.int .i64 ((rankL ra ca M : Nat) : Int)) ∧ BytesBlk w' B2 (elim ra ca co M O ca).2.1 ∧ Kept (fun j => j = B1 ∨ j = B2) w w' := by
  subst hn1 hn2
  refine (solve_any ra ca co B1 B2 k1 k2 M O w h1 h2 hB1 hB2 hne hM hO r1 r16 c1 c16 o1 o16 hk1 hk1' hk2 hk2').mono ?_
  rintro e w' ⟨rfl, _, hb, hk⟩
  exact ⟨by rw [rankL_of], hb, hk⟩

theorem empty_one (r : Nat) (w : World) (hr : r ≤ 16) :
    Calls Try.prog 60 #[.int .i64 (r : Int), .int .i64 1] w fun e w' => ∃ B, w.heap.size ≤ B ∧ B < w'.heap.size ∧ e = .returned (matV (r : Int) 1 (.slice (some ⟨B, 0, none⟩) r r)) ∧ BytesBlk w' B (List.replicate r 0) ∧ Below w.heap.size w w' := by
  have h := empty_any r 1 w hr (by omega)
  simp only [Nat.mul_one] at h
  exact h
theorem solve_one (ra ca B1 B2 n1 k1 k2 : Nat) (M O : List Nat) (w : World) (h1 : BytesBlk w B1 M) (h2 : BytesBlk w B2 O) (hB1 : B1 < w.heap.size) (hB2 : B2 < w.heap.size) (hne : B1 ≠ B2)
    (hn1 : n1 = M.length) (hM : M.length = ra * ca) (hO : O.length = ra) (r1 : 1 ≤ ra) (r16 : ra ≤ 16) (c1 : 1 ≤ ca) (c16 : ca ≤ 16) (hk1 : n1 ≤ k1) (hk1' : k1 ≤ 9223372036854775807) (hk2 : ra ≤ k2) (hk2' : k2 ≤ 9223372036854775807) :
    Calls Try.prog 75 #[matV (ra : Int) (ca : Int) (.slice (some ⟨B1, 0, none⟩) n1 k1), matV (ra : Int) 1 (.slice (some ⟨B2, 0, none⟩) ra k2)] w fun e w' =>
      e = .returned (.int .i64 ((rankL ra ca M : Nat) : Int)) ∧ Kept (fun j => j = B1 ∨ j = B2) w w' :=
  (solve_at ra ca 1 B1 B2 n1 ra k1 k2 M O w h1 h2 hB1 hB2 hne hn1 hO.symm hM (by rw [hO, Nat.mul_one]) r1 r16 c1 c16 (by omega) (by omega) hk1 hk1' hk2 hk2').mono fun e w' h => ⟨h.1, h.2.2⟩

/-- The page's inverse and rank come of one sweep. -/
def invO (n : Nat) (ns : List Nat) : List Nat := (elim n n n ns (oneL n n) n).2.1
theorem invO_length (n : Nat) (ns : List Nat) : (invO n ns).length = n * n := by rw [invO, (elim_length _ _ _ _ _ _).2, oneL_length]

end Go.Proofs.Ytijcmdcjjcemfaa

/- What elimination keeps: the matrix is what lies beside it times what it was; its steps. -/

namespace Go.Proofs.Ytijcmdcjjcemfaa
set_option linter.unusedVariables false
set_option linter.unusedSimpArgs false

/-- While c columns were brought into steps. -/
structure Steps (ra ca co : Nat) (B : Nat → Nat → Nat) (c : Nat) (S : List Nat × List Nat × Nat) : Prop where
  lM : S.1.length = ra * ca
  lO : S.2.1.length = ra * co
  bM : ∀ x ∈ S.1, x < 256
  bO : ∀ x ∈ S.2.1, x < 256
  rk : S.2.2 ≤ ra
  prod : ∀ i j, i < ra → j < ca → ent ca S.1 i j = dot co (ent co S.2.1 i) (fun k => B k j)
  piv : ∃ pc : Nat → Nat, (∀ t, t < S.2.2 → pc t < c) ∧ (∀ s t, s < t → t < S.2.2 → pc s < pc t) ∧ ∀ i t, i < ra → t < S.2.2 → ent ca S.1 i (pc t) = if i = t then 1 else 0
  zero : ∀ i j, S.2.2 ≤ i → i < ra → j < c → ent ca S.1 i j = 0

theorem swp_ge {p q i : Nat} (hp : q ≤ p) (hi : q ≤ i) : q ≤ swp p q i := by unfold swp; split <;> (try split) <;> omega
theorem swp_low {p q i : Nat} (hp : q ≤ p) (hi : i < q) : swp p q i = i := by unfold swp; rw [if_neg (by omega), if_neg (by omega)]
theorem swp_at {p q : Nat} : swp p q q = p := by unfold swp; split <;> simp_all

theorem Steps.step {ra ca co c : Nat} {B : Nat → Nat → Nat} {S : List Nat × List Nat × Nat} (hB : ∀ k, B8 (B k)) (h : Steps ra ca co B c S) (hc : c < ca) : Steps ra ca co B (c + 1) (colStep ra ca co c S) := by
  obtain ⟨M, O, r⟩ := S
  obtain ⟨lM, lO, bM, bO, rk, prod, ⟨pc, pc1, pc2, pc3⟩, zero⟩ := h
  dsimp only at lM lO bM bO rk prod pc1 pc2 pc3 zero
  have hge := findP_ge M ca c (ra - r) r
  unfold colStep
  dsimp only
  by_cases hp : findP M ca c r (ra - r) < ra
  · rw [if_pos hp]
    have hne := findP_ne M ca c (ra - r) r (by omega)
    obtain ⟨p, hpe⟩ : ∃ p, p = findP M ca c r (ra - r) := ⟨_, rfl⟩
    rw [← hpe] at hp hge hne ⊢
    have hr : r < ra := by omega
    have lM1 : (swapL ca p r M).length = ra * ca := by rw [swapL_length]; exact lM
    have lO1 : (swapL co p r O).length = ra * co := by rw [swapL_length]; exact lO
    have bM1 := swapL_all (c := ca) (p := p) (q := r) bM
    have bO1 := swapL_all (c := co) (p := p) (q := r) bO
    obtain ⟨v, hv⟩ : ∃ v, v = Gf.inv ((swapL ca p r M).getD (r * ca + c) 0) := ⟨_, rfl⟩
    have hv256 : v < 256 := by rw [hv]; exact Gf.inv_lt _
    have eM1 : ∀ i j, j < ca → ent ca (swapL ca p r M) i j = ent ca M (swp p r i) j := fun i j hj => ent_swap lM hp hr hj
    have eO1 : ∀ i j, j < co → ent co (swapL co p r O) i j = ent co O (swp p r i) j := fun i j hj => ent_swap lO hp hr hj
    have hpv : (swapL ca p r M).getD (r * ca + c) 0 = ent ca M p c := by have := eM1 r c hc; rw [swp_at] at this; exact this
    have hv1 : Gf.mul (ent ca M p c) v = 1 := by rw [hv, hpv]; exact Gf.inv_mul (ent_lt bM _ _) hne
    have ePM : pivM ca c p r M = scaleL ca r v (swapL ca p r M) := by rw [pivM, ← hv]
    have ePO : pivO ca co c p r M O = scaleL co r v (swapL co p r O) := by rw [pivO, ← hv]
    rw [ePM, ePO]
    have lM2 : (scaleL ca r v (swapL ca p r M)).length = ra * ca := by rw [scaleL_length]; exact lM1
    have lO2 : (scaleL co r v (swapL co p r O)).length = ra * co := by rw [scaleL_length]; exact lO1
    have bM2 := scaleL_all (c := ca) (k := r) (v := v) bM1
    have bO2 := scaleL_all (c := co) (k := r) (v := v) bO1
    have eM2 : ∀ i j, j < ca → ent ca (scaleL ca r v (swapL ca p r M)) i j = if i = r then Gf.mul (ent ca M (swp p r i) j) v else ent ca M (swp p r i) j := fun i j hj => by rw [ent_scale lM1 hr hj, eM1 i j hj]
    have eO2 : ∀ i j, j < co → ent co (scaleL co r v (swapL co p r O)) i j = if i = r then Gf.mul (ent co O (swp p r i) j) v else ent co O (swp p r i) j := fun i j hj => by rw [ent_scale lO1 hr hj, eO1 i j hj]
    generalize scaleL ca r v (swapL ca p r M) = M2 at *
    generalize scaleL co r v (swapL co p r O) = O2 at *
    -- what the scaled rows are
    have prod2 : ∀ i j, i < ra → j < ca → ent ca M2 i j = dot co (ent co O2 i) (fun k => B k j) := fun i j hi hj => by
      have hBj : B8 (fun k => B k j) := fun k => hB k j
      have hs := swp_lt hp hr hi
      rw [eM2 i j hj]
      by_cases h : i = r
      · have e : dot co (ent co O2 i) (fun k => B k j) = dot co (fun k => Gf.mul v (ent co O (swp p r i) k)) (fun k => B k j) := dot_congr (fun k hk => by rw [eO2 i k hk, if_pos h, Gf.mul_comm (ent_lt bO _ _) hv256]) (fun _ _ => rfl)
        rw [if_pos h, prod _ j hs hj, e, dot_smul_left hv256 (ent_lt bO _) hBj, Gf.mul_comm (dot_lt (ent_lt bO _) _) hv256]
      · rw [if_neg h, prod _ j hs hj]
        exact dot_congr (fun k hk => by rw [eO2 i k hk, if_neg h]) (fun _ _ => rfl)
    have piv2 : ∀ i t, i < ra → t < r → ent ca M2 i (pc t) = if i = t then 1 else 0 := fun i t hi ht => by
      have hpt := pc1 t ht
      rw [eM2 i (pc t) (by omega)]
      by_cases h : i = r
      · rw [if_pos h, h, swp_at, pc3 p t hp ht, if_neg (by omega), if_neg (by omega), Gf.zero_mul _ hv256]
      · rw [if_neg h]
        by_cases hl : i < r
        · rw [swp_low hge.1 hl]; exact pc3 i t hi ht
        · rw [pc3 _ t (swp_lt hp hr hi) ht, if_neg (by have := swp_ge hge.1 (show r ≤ i by omega); omega), if_neg (by omega)]
    have zero2 : ∀ i j, r ≤ i → i < ra → j < c → ent ca M2 i j = 0 := fun i j hri hi hj => by
      have h0 := zero (swp p r i) j (swp_ge hge.1 hri) (swp_lt hp hr hi) hj
      rw [eM2 i j (by omega), h0]
      split
      · exact Gf.zero_mul _ hv256
      · rfl
    have one2 : ent ca M2 r c = 1 := by rw [eM2 r c hc, if_pos rfl, swp_at]; exact hv1
    obtain ⟨eM3, eO3⟩ := ent_clr (rk := r) lM2 lO2 hc ra (Nat.le_refl ra)
    have hb3 := clrAll_all (ca := ca) (co := co) (c := c) (rk := r) bM2 bO2 ra
    have hl3 := clrAll_length ca co c r ra (M2, O2)
    generalize clrAll ca co c r ra (M2, O2) = T at *
    obtain ⟨M3, O3⟩ := T
    dsimp only at eM3 eO3 hb3 hl3 ⊢
    refine ⟨hl3.1.trans lM2, hl3.2.trans lO2, hb3.1, hb3.2, hr, ?_, ⟨fun t => if t = r then c else pc t, ?_, ?_, ?_⟩, ?_⟩
    · intro i j hi hj
      have hBj : B8 (fun k => B k j) := fun k => hB k j
      rw [eM3 i j hj]
      by_cases h : i < ra ∧ i ≠ r
      · rw [if_pos h, prod2 i j hi hj, prod2 r j hr hj]
        have hcf : ent ca M2 i c < 256 := ent_lt bM2 i c
        have e : dot co (ent co O3 i) (fun k => B k j) = dot co (fun k => ent co O2 i k ^^^ Gf.mul (ent ca M2 i c) (ent co O2 r k)) (fun k => B k j) := dot_congr (fun k hk => by rw [eO3 i k hk, if_pos h, Gf.mul_comm (ent_lt bO2 _ _) hcf]) (fun _ _ => rfl)
        rw [e, dot_add_left (ent_lt bO2 _) (fun k => Gf.mul_lt _ hcf), dot_smul_left hcf (ent_lt bO2 _) hBj, Gf.mul_comm (dot_lt (ent_lt bO2 _) _) hcf]
      · rw [if_neg h, prod2 i j hi hj]
        exact dot_congr (fun k hk => by rw [eO3 i k hk, if_neg h]) (fun _ _ => rfl)
    · intro t ht
      dsimp only at ht ⊢
      split
      · omega
      · have := pc1 t (by omega); omega
    · intro s t hst ht
      dsimp only at ht ⊢
      rw [if_neg (show s ≠ r by omega)]
      by_cases h : t = r
      · rw [if_pos h]; exact pc1 s (by omega)
      · rw [if_neg h]; exact pc2 s t hst (by omega)
    · intro i t hi ht
      dsimp only at ht ⊢
      by_cases htr : t = r
      · rw [if_pos htr, eM3 i c hc]
        by_cases h : i < ra ∧ i ≠ r
        · rw [if_pos h, one2, Gf.one_mul _ (ent_lt bM2 _ _), Nat.xor_self, if_neg (by omega)]
        · have : i = r := by omega
          rw [if_neg h, this, one2, if_pos htr.symm]
      · have hpt := pc1 t (by omega)
        rw [if_neg htr, eM3 i (pc t) (by omega)]
        by_cases h : i < ra ∧ i ≠ r
        · rw [if_pos h, piv2 r t hr (by omega), if_neg (show ¬ r = t by omega), Gf.zero_mul _ (ent_lt bM2 _ _), Nat.xor_zero]; exact piv2 i t hi (by omega)
        · rw [if_neg h]; exact piv2 i t hi (by omega)
    · intro i j hri hi hj
      dsimp only at hri
      by_cases hjc : j = c
      · rw [hjc, eM3 i c hc, if_pos (by omega), one2, Gf.one_mul _ (ent_lt bM2 _ _), Nat.xor_self]
      · rw [eM3 i j (by omega), if_pos (by omega), zero2 r j (Nat.le_refl r) hr (by omega), Gf.zero_mul _ (ent_lt bM2 _ _), Nat.xor_zero]
        exact zero2 i j (by omega) hi (by omega)
  · rw [if_neg hp]
    refine ⟨lM, lO, bM, bO, rk, prod, ⟨pc, fun t ht => by have := pc1 t ht; omega, pc2, pc3⟩, fun i j hri hi hj => ?_⟩
    dsimp only at hri ⊢
    by_cases hjc : j = c
    · rw [hjc]
      exact findP_zero M ca c (ra - r) r i hri (by omega)
    · exact zero i j hri hi (by omega)

theorem steps_all {ra ca co : Nat} {B : Nat → Nat → Nat} {M O : List Nat} (hB : ∀ k, B8 (B k)) (lM : M.length = ra * ca) (lO : O.length = ra * co) (bM : ∀ x ∈ M, x < 256) (bO : ∀ x ∈ O, x < 256)
    (prod : ∀ i j, i < ra → j < ca → ent ca M i j = dot co (ent co O i) (fun k => B k j)) : ∀ c, c ≤ ca → Steps ra ca co B c (elim ra ca co M O c)
  | 0, _ => ⟨lM, lO, bM, bO, Nat.zero_le _, prod, ⟨fun t => t, fun t ht => by simp [elim_zero] at ht, fun s t _ ht => by simp [elim_zero] at ht, fun i t _ ht => by simp [elim_zero] at ht⟩, fun i j _ _ hj => by omega⟩
  | c + 1, hc => by rw [elim_succ]; exact (steps_all hB lM lO bM bO prod c (by omega)).step hB (by omega)

/-- The rank of a product is no more than the width between. -/
theorem rankL_product {ra ca f : Nat} {al bs : List Nat} {P : List Nat} (lP : P.length = ra * ca) (lA : al.length = ra * f) (bA : ∀ x ∈ al, x < 256) (bB : ∀ x ∈ bs, x < 256) (bP : ∀ x ∈ P, x < 256)
    (h : ∀ i j, i < ra → j < ca → ent ca P i j = dot f (ent f al i) (fun k => ent ca bs k j)) : rankL ra ca P ≤ f := by
  have hs := steps_all (B := fun k j => ent ca bs k j) (fun k j => ent_lt bB k j) lP lA bP bA h ca (Nat.le_refl ca)
  rw [← rankL_of ra ca f P al]
  obtain ⟨lM, lO, bM, bO, rk, prod, ⟨pc, pc1, pc2, pc3⟩, zero⟩ := hs
  refine id_le f _ (fun i => ent f (elim ra ca f P al ca).2.1 i) (fun k t => ent ca bs k (if t < (elim ra ca f P al ca).2.2 then pc t else 0)) (fun i k => ent_lt bO i k) (fun k t => ent_lt bB k _) (fun i t hi ht => ?_)
  have := prod i (pc t) (by omega) (pc1 t ht)
  rw [pc3 i t (by omega) ht] at this
  rw [this]
  exact dot_congr (fun _ _ => rfl) (fun k _ => by rw [if_pos ht])
end Go.Proofs.Ytijcmdcjjcemfaa

/- Elimination can be undone: what the matrix was is something times what it is. -/

namespace Go.Proofs.Ytijcmdcjjcemfaa
set_option linter.unusedVariables false
set_option linter.unusedSimpArgs false

theorem dot_single {c a : Nat} {v : Nat → Nat} (hv : B8 v) {f : Nat} (h : a < f) : dot f (fun t => if t = a then c else 0) v = Gf.mul c (v a) := by
  induction f with
  | zero => omega
  | succ f ih =>
    rw [dot_succ]
    by_cases ha : a = f
    · subst ha
      rw [dot_none_left hv (fun k hk => if_neg (by omega)), if_pos rfl, Nat.zero_xor]
    · rw [ih (by omega), if_neg (fun e => ha e.symm), Gf.zero_mul _ (hv f), Nat.xor_zero]
/-- One term taken out. -/
theorem dot_out {u v : Nat → Nat} (hv : B8 v) {a : Nat} : ∀ f, a < f → dot f u v = Gf.mul (u a) (v a) ^^^ dot f (fun k => if k = a then 0 else u k) v
  | 0, h => by omega
  | f + 1, h => by
    rw [dot_succ, dot_succ]
    by_cases ha : a = f
    · subst ha
      rw [if_pos rfl, Gf.zero_mul _ (hv a), Nat.xor_zero, Nat.xor_comm]
      congr 1
      exact dot_congr (fun k hk => by rw [if_neg (by omega)]) (fun _ _ => rfl)
    · rw [dot_out hv (a := a) f (by omega), if_neg (fun e => ha e.symm), Nat.xor_assoc]
theorem dot_swp {u v : Nat → Nat} (hu : B8 u) (hv : B8 v) {a b f : Nat} (ha : a < f) (hb : b < f) : dot f (fun k => u (swp a b k)) (fun k => v (swp a b k)) = dot f u v := by
  by_cases hab : a = b
  · subst hab
    have e : ∀ k, swp a a k = k := fun k => by unfold swp; split <;> simp_all
    simp only [e]
  · have hv' : B8 (fun k => v (swp a b k)) := fun k => hv _
    have sa : swp a b a = b := by unfold swp; rw [if_pos rfl]
    have sb : swp a b b = a := swp_at
    rw [dot_out hv' f ha, dot_out hv' (a := b) f hb, dot_out hv (a := a) f ha, dot_out hv (a := b) f hb]
    rw [if_neg (fun e => hab e.symm), if_neg (fun e => hab e.symm), sa, sb]
    have e : dot f (fun k => if k = b then 0 else if k = a then 0 else u (swp a b k)) (fun k => v (swp a b k)) = dot f (fun k => if k = b then 0 else if k = a then 0 else u k) v := by
      have h1 : dot f (fun k => if k = b then 0 else if k = a then 0 else u (swp a b k)) (fun k => v (swp a b k)) = dot f (fun k => if k = b then 0 else if k = a then 0 else u k) (fun k => v (swp a b k)) := dot_congr (fun k _ => by
        by_cases h1 : k = b
        · rw [if_pos h1, if_pos h1]
        · by_cases h2 : k = a
          · rw [if_neg h1, if_neg h1, if_pos h2, if_pos h2]
          · have : swp a b k = k := by unfold swp; rw [if_neg h2, if_neg h1]
            rw [this]) (fun _ _ => rfl)
      rw [h1]
      clear h1 sa sb hv'
      induction f with
      | zero => rfl
      | succ f ih =>
        rw [dot_succ, dot_succ]
        have ht : Gf.mul (if f = b then 0 else if f = a then 0 else u f) (v (swp a b f)) = Gf.mul (if f = b then 0 else if f = a then 0 else u f) (v f) := by
          by_cases h1 : f = b
          · rw [if_pos h1, Gf.zero_mul _ (hv _), Gf.zero_mul _ (hv _)]
          · by_cases h2 : f = a
            · rw [if_neg h1, if_pos h2, Gf.zero_mul _ (hv _), Gf.zero_mul _ (hv _)]
            · have : swp a b f = f := by unfold swp; rw [if_neg h2, if_neg h1]
              rw [this]
        rw [ht]
        congr 1
        have hgen : ∀ g, dot g (fun k => if k = b then 0 else if k = a then 0 else u k) (fun k => v (swp a b k)) = dot g (fun k => if k = b then 0 else if k = a then 0 else u k) v := by
          intro g
          induction g with
          | zero => rfl
          | succ g ih2 =>
            rw [dot_succ, dot_succ, ih2]
            congr 1
            by_cases h1 : g = b
            · rw [if_pos h1, Gf.zero_mul _ (hv _), Gf.zero_mul _ (hv _)]
            · by_cases h2 : g = a
              · rw [if_neg h1, if_pos h2, Gf.zero_mul _ (hv _), Gf.zero_mul _ (hv _)]
              · have : swp a b g = g := by unfold swp; rw [if_neg h2, if_neg h1]
                rw [this]
        exact hgen f
    rw [e, ← Nat.xor_assoc, ← Nat.xor_assoc, Nat.xor_comm (Gf.mul (u b) (v b))]

/-- What lay there at first is something times what lies there now. -/
def Undo (ra ca : Nat) (M0 M : List Nat) : Prop := ∃ G : Nat → Nat → Nat, (∀ i, B8 (G i)) ∧ ∀ i j, i < ra → j < ca → ent ca M0 i j = dot ra (G i) (fun t => ent ca M t j)
theorem Undo.refl {ra ca : Nat} {M : List Nat} (h : ∀ x ∈ M, x < 256) : Undo ra ca M M :=
  ⟨fun i k => if i = k then 1 else 0, fun i k => by show (if i = k then 1 else 0) < 256; split <;> omega, fun i j hi hj => (dot_one_left (fun t => ent_lt h t j) hi).symm⟩
theorem Undo.swap {ra ca p q : Nat} {M0 M M' : List Nat} (h : Undo ra ca M0 M) (hM : ∀ x ∈ M, x < 256) (hp : p < ra) (hq : q < ra) (e : ∀ i j, j < ca → ent ca M' i j = ent ca M (swp p q i) j) : Undo ra ca M0 M' := by
  obtain ⟨G, hG, hd⟩ := h
  refine ⟨fun i t => G i (swp p q t), fun i t => hG i _, fun i j hi hj => ?_⟩
  rw [hd i j hi hj, ← dot_swp (hG i) (fun t => ent_lt hM t j) hp hq]
  exact dot_congr (fun _ _ => rfl) (fun t _ => (e t j hj).symm)
theorem Undo.scale {ra ca k v w : Nat} {M0 M M' : List Nat} (h : Undo ra ca M0 M) (hM : ∀ x ∈ M, x < 256) (hv : v < 256) (hw : w < 256) (hvw : Gf.mul w v = 1) (e : ∀ i j, j < ca → ent ca M' i j = if i = k then Gf.mul (ent ca M i j) v else ent ca M i j) : Undo ra ca M0 M' := by
  obtain ⟨G, hG, hd⟩ := h
  refine ⟨fun i t => if t = k then Gf.mul (G i t) w else G i t, fun i t => by show (if t = k then Gf.mul (G i t) w else G i t) < 256; split <;> first | exact Gf.mul_lt _ (hG i t) | exact hG i t, fun i j hi hj => ?_⟩
  rw [hd i j hi hj]
  have key : ∀ f, dot f (G i) (fun t => ent ca M t j) = dot f (fun t => if t = k then Gf.mul (G i t) w else G i t) (fun t => ent ca M' t j) := by
    intro f
    induction f with
    | zero => rfl
    | succ f ih =>
      rw [dot_succ, dot_succ, ih]
      congr 1
      rw [e f j hj]
      by_cases hf : f = k
      · rw [if_pos hf, if_pos hf, Gf.mul_assoc (hG i f) hw (Gf.mul_lt _ (ent_lt hM f j)), Gf.mul_comm (ent_lt hM f j) hv, ← Gf.mul_assoc hw hv (ent_lt hM f j), hvw, Gf.one_mul _ (ent_lt hM f j)]
      · rw [if_neg hf, if_neg hf]
  exact key ra
theorem Undo.clear {ra ca r c : Nat} {M0 M M' : List Nat} (h : Undo ra ca M0 M) (hM : ∀ x ∈ M, x < 256) (hM' : ∀ x ∈ M', x < 256) (hr : r < ra) (e : ∀ i j, j < ca → ent ca M' i j = if i < ra ∧ i ≠ r then ent ca M i j ^^^ Gf.mul (ent ca M r j) (ent ca M i c) else ent ca M i j) : Undo ra ca M0 M' := by
  obtain ⟨G, hG, hd⟩ := h
  have hs : B8 (fun t => if t < ra ∧ t ≠ r then ent ca M t c else 0) := fun t => by show (if t < ra ∧ t ≠ r then ent ca M t c else 0) < 256; split <;> first | exact ent_lt hM t c | omega
  refine ⟨fun i t => G i t ^^^ (if t = r then dot ra (G i) (fun t => if t < ra ∧ t ≠ r then ent ca M t c else 0) else 0), fun i t => Gf.xor_lt (hG i t) (by split <;> first | exact dot_lt (hG i) ra | omega), fun i j hi hj => ?_⟩
  have hm' : B8 (fun t => ent ca M' t j) := fun t => ent_lt hM' t j
  have hrr : ent ca M' r j = ent ca M r j := by rw [e r j hj, if_neg (by omega)]
  have hmr : ent ca M r j < 256 := ent_lt hM r j
  rw [hd i j hi hj, dot_add_left (hG i) (fun t => by split <;> first | exact dot_lt (hG i) ra | omega), dot_single hm' hr, hrr]
  have e1 : dot ra (G i) (fun t => ent ca M t j) = dot ra (G i) (fun t => ent ca M' t j ^^^ Gf.mul (ent ca M r j) (if t < ra ∧ t ≠ r then ent ca M t c else 0)) := dot_congr (fun _ _ => rfl) (fun t ht => by
    rw [e t j hj]
    by_cases h : t < ra ∧ t ≠ r
    · rw [if_pos h, if_pos h, Nat.xor_assoc, Nat.xor_self, Nat.xor_zero]
    · rw [if_neg h, if_neg h, Gf.mul_zero, Nat.xor_zero])
  rw [e1, dot_add_right (hG i) hm' (fun t => Gf.mul_lt _ hmr), dot_smul_right hmr (hG i) hs, Gf.mul_comm hmr (dot_lt (hG i) ra)]
end Go.Proofs.Ytijcmdcjjcemfaa

/- matrix.Invert, walked. -/

namespace Go.Proofs.Ytijcmdcjjcemfaa
open Go.ChangeShapes Go.WideShapes Go.ChangeAt Go.RowKit Go.Joins Go.Shelf
set_option linter.unusedVariables false
set_option linter.unusedSimpArgs false

/-- What an inversion comes to. -/
def invE (n : Nat) (ns : List Nat) : Int := if rankL n n ns < n then 3 else 0
def InvM (w w' : World) (n : Nat) (ns : List Nat) (v : Value) : Prop := (rankL n n ns < n ∧ v = matV 0 0 (.slice none 0 0)) ∨ (rankL n n ns = n ∧ MadeM w w' v n n (invO n ns))

set_option maxRecDepth 100000 in
set_option maxHeartbeats 4000000 in
theorem invert_yes (n b o k : Nat) (ns : List Nat) (w : World) (h : BytesV w (.slice (some ⟨b, o, none⟩) ns.length k) ns) (hl : ns.length = n * n) (r1 : 1 ≤ n) (r16 : n ≤ 16) :
    Calls Try.prog 55 #[matV (n : Int) (n : Int) (.slice (some ⟨b, o, none⟩) ns.length k)] w fun e w' => ∃ v, e = .returned (.tuple #[v, .int .i64 (invE n ns)]) ∧ InvM w w' n ns v ∧ Below w.heap.size w w' := by
  have HMA := Lib.hid (mayM_of r1 r16 r1 r16 hl)
  have hns : 1 ≤ ns.length := by rw [hl]; exact Nat.mul_le_mul r1 r1
  have hns2 : ns.length ≤ 256 := by rw [hl]; exact Nat.mul_le_mul r16 r16
  have hmx : maxLen ≤ 9223372036854775807 := by unfold maxLen; omega
  obtain ⟨oA, hoA⟩ : ∃ x, x = (Obj.cells #[.int .i64 (n : Int), .int .i64 (n : Int), .slice (some ⟨b, o, none⟩) ns.length k] 55) := ⟨_, rfl⟩
  obtain ⟨oR, hoR⟩ : ∃ x, x = (Obj.cells #[.int .i64 0, .int .i64 0, .slice none 0 0] 55) := ⟨_, rfl⟩
  have tA := Three.new w (.int .i64 (n : Int)) (.int .i64 (n : Int)) (.slice (some ⟨b, o, none⟩) ns.length k) 55
  rw [← hoA] at tA
  have tR := Three.new (w.alloc oA) (.int .i64 0) (.int .i64 0) (.slice none 0 0) 55
  rw [World.size_alloc, ← hoR] at tR
  have hbe : Below w.heap.size w ((w.alloc oA).alloc oR) := ((Below.refl w.heap.size w).alloc (Nat.le_refl _) oA).alloc (by simp) oR
  have hsz : ((w.alloc oA).alloc oR).heap.size = w.heap.size + 1 + 1 := by simp
  have TA := Lib.hid (tA.alloc oR)
  have TR := Lib.hid tR
  have HBE := Lib.hid hbe
  have HSZ := Lib.hid hsz
  have H := Lib.hid (h.below hbe)
  have HL := Lib.hid hl
  clear tA tR hbe h hl hsz
  unfold matV
  go_enter Try.func55, Try.ntmps55
  go_wp2_with fail
  rw [← hoA, ← hoR]
  generalize (w.alloc oA).alloc oR = W0 at *
  clear hoA hoR
  refine (mayM_any (n : Int) (n : Int) (some ⟨b, o, none⟩) ns.length k _ (by omega)).mono ?_
  rintro e w1 ⟨rfl, hb1⟩
  rw [HMA.out]
  obtain ⟨a0, a1, a2, _, _, _⟩ := TA.out.below hb1
  have HB1 := Lib.hid (HBE.out.trans (hb1.mono HBE.out.size))
  have HB01 := Lib.hid hb1
  have hs1 := hb1.size
  have hz := HSZ.out
  clear hb1
  have hne : ((n : Int) == (n : Int)) = true := by simp
  go_wp2_with fail
  refine (one_yes n r1 r16 _).mono ?_
  rintro e w2 ⟨v2, rfl, ⟨X, hX1, hX2, rfl, hblk, _⟩, hb2⟩
  have HB02 := Lib.hid (cum2 HB01.out hb2)
  have HBLK := Lib.hid hblk
  obtain ⟨oX, hoX⟩ : ∃ x, x = (Obj.cells #[.int .i64 (n : Int), .int .i64 (n : Int), .slice (some ⟨X, 0, none⟩) (n * n) (n * n)] 55) := ⟨_, rfl⟩
  have tX := Three.new w2 (.int .i64 (n : Int)) (.int .i64 (n : Int)) (.slice (some ⟨X, 0, none⟩) (n * n) (n * n)) 55
  rw [← hoX] at tX
  have hb3 := (Below.refl w2.heap.size w2).alloc (Nat.le_refl _) oX
  have TX := Lib.hid tX
  have TA3 := Lib.hid ((TA.out.below HB02.out).below hb3)
  have TR3 := Lib.hid ((TR.out.below HB02.out).below hb3)
  have H3 := Lib.hid ((H.out.below HB02.out).below hb3)
  have HX3 := Lib.hid (blk_below hblk hX2 hb3)
  have HB03 := Lib.hid (cum2 HB02.out hb3)
  have hs2 := hb2.size
  have hs3 : w2.heap.size < (w2.alloc oX).heap.size := by simp
  clear hb2 hblk tX hb3 a0 a1 a2 HBLK
  unfold matV
  go_wp2_with fail
  rw [← hoX]
  clear hoX
  generalize w2.alloc oX = W3 at *
  generalize w2.heap.size = bx at *
  obtain ⟨a0, a1, a2, _, _, _⟩ := TA3.out
  obtain ⟨x0, x1, x2, _, _, _⟩ := TX.out
  have HLT : Hid (∀ y ∈ ns, y < 256) := H3.out.2
  have HK : Hid (∀ W', Kept (fun j => W3.heap.size ≤ j ∨ j = X) W3 W' → W'.cell? ⟨w.heap.size, 0, none⟩ = some (.int .i64 (n : Int)) ∧ W'.cell? ⟨w.heap.size, 1, none⟩ = some (.int .i64 (n : Int)) ∧ W'.cell? ⟨w.heap.size, 2, none⟩ = some (.slice (some ⟨b, o, none⟩) ns.length k) ∧ W'.cell? ⟨bx, 0, none⟩ = some (.int .i64 (n : Int)) ∧ W'.cell? ⟨bx, 1, none⟩ = some (.int .i64 (n : Int)) ∧ W'.cell? ⟨bx, 2, none⟩ = some (.slice (some ⟨X, 0, none⟩) (n * n) (n * n))) := fun W' h => by
    obtain ⟨g0, g1, g2, _, _, _⟩ := TA3.out.below' h (by omega)
    obtain ⟨h0, h1, h2, _, _, _⟩ := TX.out.below' h (by omega)
    exact ⟨g0, g1, g2, h0, h1, h2⟩
  have ho := oneL_length n n
  go_region_held3 (fun W' => W'.cell? ⟨w.heap.size, 0, none⟩ = some (.int .i64 (n : Int)) ∧ W'.cell? ⟨w.heap.size, 1, none⟩ = some (.int .i64 (n : Int)) ∧ W'.cell? ⟨w.heap.size, 2, none⟩ = some (.slice (some ⟨b, o, none⟩) ns.length k) ∧ W'.cell? ⟨bx, 0, none⟩ = some (.int .i64 (n : Int)) ∧ W'.cell? ⟨bx, 1, none⟩ = some (.int .i64 (n : Int)) ∧ W'.cell? ⟨bx, 2, none⟩ = some (.slice (some ⟨X, 0, none⟩) (n * n) (n * n))) (first | exact HK.out _ hkk | go_keep)
    (first
      | (go_at_call 76; refine (own_any (n : Int) (n : Int) b o ns.length k ns _ (H3.out.below (Below.drew (Below.refl _ _))) (by omega) (by omega)).mono ?_; rintro e w4 ⟨r, rfl, hown, hb4⟩; obtain ⟨g, cap, rfl, hg1, hg2, hg3, hg4, hg5, hblk⟩ := own_blk hown (by omega) HLT.out; have HG := Lib.hid hblk; have hcum := below_of_drewG hb4; have hkk : Kept (fun j => W3.heap.size ≤ j ∨ j = X) W3 w4 := Kept.of_below hcum; have HX4 := Lib.hid (blk_below HX3.out (by omega) hcum); have hs4 := hcum.size; have HC4 := Lib.hid hcum; clear hb4 hown hblk hcum)
      | (go_at_call 75; refine (solve_at n n n g X ns.length (n * n) cap (n * n) ns (oneL n n) _ HG.out HX4.out hg2 (by omega) (by have hg1' : W3.heap.size ≤ g := hg1; omega) rfl ho.symm HL.out ho r1 r16 r1 r16 r1 r16 (by omega) (by omega) (Nat.le_refl _) (by have := Nat.mul_le_mul r16 r16; omega)).mono ?_; rintro e w5 ⟨rfl, hbx, hk5⟩; have hkk := hkk.trans (kept_low (q := fun j => W3.heap.size ≤ j ∨ j = X) hk5 (fun j _ e => by have hg1' : W3.heap.size ≤ g := hg1; omega)); have HIV := Lib.hid (show BytesBlk w5 X (invO n ns) from hbx); clear hbx hk5))
  have HR5 := Lib.hid (TR3.out.below' hkk (by omega))
  have HX5 := Lib.hid (TX.out.below' hkk (by omega))
  have hs5 := hkk.size
  have HKF := Lib.hid ((Kept.of_below (p := fun j => W3.heap.size ≤ j ∨ j = X) (HBE.out.trans (HB03.out.mono HBE.out.size))).trans hkk)
  obtain ⟨r0, r1', r2, _, _, _⟩ := HR5.out
  obtain ⟨x0, x1, x2, _, _, _⟩ := HX5.out
  clear a0 a1 a2 HK
  have hlo := invO_length n ns
  have HLO := Lib.hid hlo
  have HFin : Hid (Below w.heap.size w w5) := ⟨HKF.out.os, HKF.out.tape, HKF.out.output, HKF.out.size, fun j hj => HKF.out.block j hj (by omega)⟩
  obtain ⟨rr, hrr⟩ : ∃ rr, rr = rankL n n ns := ⟨_, rfl⟩
  rw [← hrr]
  have hrl : rr ≤ n := by rw [hrr]; exact (rankL_le n n ns).1
  have HRR := Lib.hid hrr
  clear hrr ho hlo hkk
  by_cases hlt : rr < n
  · have hd : decide ((rr : Int) < (n : Int)) = true := by simp; omega
    have HE : Hid (invE n ns = 3) := by rw [Hid, invE, ← HRR.out, if_pos hlt]
    go_wp2_with fail
    obtain ⟨t0, t1, t2, _, _, _⟩ := three_put HR5.out (.int .i64 0) (.int .i64 0) (.slice none 0 0)
    refine bodyPost_ret (v := .tuple #[matV 0 0 (.slice none 0 0), .int .i64 3]) (by simp [results, Try.results55, go_sem, matV, t0, t1, t2]) rfl ⟨_, by rw [HE.out], Or.inl ⟨by rw [← HRR.out]; exact hlt, rfl⟩, ?_⟩
    exact ((HFin.out.setCell (p := ⟨w.heap.size + 1, 0, none⟩) (by simp) _).setCell (p := ⟨w.heap.size + 1, 1, none⟩) (by simp) _).setCell (p := ⟨w.heap.size + 1, 2, none⟩) (by simp) _
  · have hd : decide ((rr : Int) < (n : Int)) = false := by simp; omega
    have HE : Hid (invE n ns = 0) := by rw [Hid, invE, ← HRR.out, if_neg hlt]
    go_wp2_with fail
    obtain ⟨t0, t1, t2, _, _, _⟩ := three_put HR5.out (.int .i64 (n : Int)) (.int .i64 (n : Int)) (.slice (some ⟨X, 0, none⟩) (n * n) (n * n))
    refine bodyPost_ret (v := .tuple #[matV (n : Int) (n : Int) (.slice (some ⟨X, 0, none⟩) (n * n) (n * n)), .int .i64 0]) (by simp [results, Try.results55, go_sem, matV, t0, t1, t2]) rfl ⟨_, by rw [HE.out], Or.inr ⟨by rw [← HRR.out]; omega, X, by omega, by simp only [World.size_setCell]; omega, rfl, ?_, HLO.out⟩, ?_⟩
    · exact blk_cell (blk_cell (blk_cell HIV.out (by dsimp only; omega)) (by dsimp only; omega)) (by dsimp only; omega)
    · exact ((HFin.out.setCell (p := ⟨w.heap.size + 1, 0, none⟩) (by simp) _).setCell (p := ⟨w.heap.size + 1, 1, none⟩) (by simp) _).setCell (p := ⟨w.heap.size + 1, 2, none⟩) (by simp) _

set_option maxRecDepth 100000 in
set_option maxHeartbeats 1000000 in
/-- Where no inverse is asked of what may have one. -/
theorem invert_no (R C : Int) (A : Option Addr) (n k : Nat) (w : World) (hn : n ≤ 9223372036854775807) (hm : mayM R C n = false ∨ R ≠ C) :
    Calls Try.prog 55 #[matV R C (.slice A n k)] w fun e w' => e = .returned (.tuple #[matV 0 0 (.slice none 0 0), .int .i64 1]) ∧ Below w.heap.size w w' := by
  obtain ⟨oA, hoA⟩ : ∃ x, x = (Obj.cells #[.int .i64 R, .int .i64 C, .slice A n k] 55) := ⟨_, rfl⟩
  obtain ⟨oR, hoR⟩ : ∃ x, x = (Obj.cells #[.int .i64 0, .int .i64 0, .slice none 0 0] 55) := ⟨_, rfl⟩
  have tA := Three.new w (.int .i64 R) (.int .i64 C) (.slice A n k) 55
  rw [← hoA] at tA
  have tR := Three.new (w.alloc oA) (.int .i64 0) (.int .i64 0) (.slice none 0 0) 55
  rw [World.size_alloc, ← hoR] at tR
  have hbe : Below w.heap.size w ((w.alloc oA).alloc oR) := ((Below.refl w.heap.size w).alloc (Nat.le_refl _) oA).alloc (by simp) oR
  have TA := Lib.hid (tA.alloc oR)
  have TR := Lib.hid tR
  have HBE := Lib.hid hbe
  clear tA tR hbe
  have HM := Lib.hid hm
  unfold matV
  go_enter Try.func55, Try.ntmps55
  go_wp2_with fail
  rw [← hoA, ← hoR]
  generalize (w.alloc oA).alloc oR = W0 at *
  clear hoA hoR hm
  refine (mayM_any R C A n k _ hn).mono ?_
  rintro e w1 ⟨rfl, hb1⟩
  obtain ⟨a0, a1, a2, _, _, _⟩ := TA.out.below hb1
  have HR1 := Lib.hid (TR.out.below hb1)
  have HFin := Lib.hid (HBE.out.trans (hb1.mono HBE.out.size))
  obtain ⟨r0, r1', r2, _, _, _⟩ := HR1.out
  clear hb1
  obtain ⟨mb, hmb⟩ : ∃ mb, mb = mayM R C n := ⟨_, rfl⟩
  rw [← hmb]
  cases mb
  · clear hmb
    go_wp2_with fail
    obtain ⟨t0, t1, t2, _, _, _⟩ := three_put HR1.out (.int .i64 0) (.int .i64 0) (.slice none 0 0)
    refine bodyPost_ret (v := .tuple #[matV 0 0 (.slice none 0 0), .int .i64 1]) (by simp [results, Try.results55, go_sem, matV, t0, t1, t2]) rfl ⟨rfl, ?_⟩
    exact ((HFin.out.setCell (p := ⟨w.heap.size + 1, 0, none⟩) (by simp) _).setCell (p := ⟨w.heap.size + 1, 1, none⟩) (by simp) _).setCell (p := ⟨w.heap.size + 1, 2, none⟩) (by simp) _
  · have hrc : (R == C) = false := beq_eq_false_iff_ne.2 (by rcases HM.out with h | h; · rw [h] at hmb; cases hmb
                                                             · exact h)
    clear hmb
    go_wp2_with fail
    obtain ⟨t0, t1, t2, _, _, _⟩ := three_put HR1.out (.int .i64 0) (.int .i64 0) (.slice none 0 0)
    refine bodyPost_ret (v := .tuple #[matV 0 0 (.slice none 0 0), .int .i64 1]) (by simp [results, Try.results55, go_sem, matV, t0, t1, t2]) rfl ⟨rfl, ?_⟩
    exact ((HFin.out.setCell (p := ⟨w.heap.size + 1, 0, none⟩) (by simp) _).setCell (p := ⟨w.heap.size + 1, 1, none⟩) (by simp) _).setCell (p := ⟨w.heap.size + 1, 2, none⟩) (by simp) _
end Go.Proofs.Ytijcmdcjjcemfaa
