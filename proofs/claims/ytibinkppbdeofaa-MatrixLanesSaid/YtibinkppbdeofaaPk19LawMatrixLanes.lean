/- Elimination can be undone: what the matrix was is something times what it is. -/
import Derived.Test.YtibinkppbdeofaaPk18LawMatrixLanes
import Derived.Test.YtibinkppbdeofaaPk16LawMatrixLanes
import Derived.Test.YtibinkppbdeofaaPk12LawMatrixLanes
namespace Go.Proofs.Ytibinkppbdeofaa
set_option linter.unusedVariables false
set_option linter.unusedSimpArgs false

theorem dot_single {c a : Nat} {v : Nat → Nat} (hv : B8 v) {f : Nat} (h : a < f) : dot f (fun t => if t = a then c else 0) v = Gf.mul c (v a) := by
  induction f with
  | zero => omega
  | succ f ih =>
    rw [dot_succ]
    by_cases ha : a = f
    · subst ha
      rw [dot_none_left hv (fun k hk => if_neg (by omega)), if_pos rfl, Nat.zero_xor]
    · rw [ih (by omega), if_neg (fun e => ha e.symm), Gf.zero_mul _ (hv f), Nat.xor_zero]
/-- One term taken out. -/
theorem dot_out {u v : Nat → Nat} (hv : B8 v) {a : Nat} : ∀ f, a < f → dot f u v = Gf.mul (u a) (v a) ^^^ dot f (fun k => if k = a then 0 else u k) v
  | 0, h => by omega
  | f + 1, h => by
    rw [dot_succ, dot_succ]
    by_cases ha : a = f
    · subst ha
      rw [if_pos rfl, Gf.zero_mul _ (hv a), Nat.xor_zero, Nat.xor_comm]
      congr 1
      exact dot_congr (fun k hk => by rw [if_neg (by omega)]) (fun _ _ => rfl)
    · rw [dot_out hv (a := a) f (by omega), if_neg (fun e => ha e.symm), Nat.xor_assoc]
theorem dot_swp {u v : Nat → Nat} (hu : B8 u) (hv : B8 v) {a b f : Nat} (ha : a < f) (hb : b < f) : dot f (fun k => u (swp a b k)) (fun k => v (swp a b k)) = dot f u v := by
  by_cases hab : a = b
  · subst hab
    have e : ∀ k, swp a a k = k := fun k => by unfold swp; split <;> simp_all
    simp only [e]
  · have hv' : B8 (fun k => v (swp a b k)) := fun k => hv _
    have sa : swp a b a = b := by unfold swp; rw [if_pos rfl]
    have sb : swp a b b = a := swp_at
    rw [dot_out hv' f ha, dot_out hv' (a := b) f hb, dot_out hv (a := a) f ha, dot_out hv (a := b) f hb]
    rw [if_neg (fun e => hab e.symm), if_neg (fun e => hab e.symm), sa, sb]
    have e : dot f (fun k => if k = b then 0 else if k = a then 0 else u (swp a b k)) (fun k => v (swp a b k)) = dot f (fun k => if k = b then 0 else if k = a then 0 else u k) v := by
      have h1 : dot f (fun k => if k = b then 0 else if k = a then 0 else u (swp a b k)) (fun k => v (swp a b k)) = dot f (fun k => if k = b then 0 else if k = a then 0 else u k) (fun k => v (swp a b k)) := dot_congr (fun k _ => by
        by_cases h1 : k = b
        · rw [if_pos h1, if_pos h1]
        · by_cases h2 : k = a
          · rw [if_neg h1, if_neg h1, if_pos h2, if_pos h2]
          · have : swp a b k = k := by unfold swp; rw [if_neg h2, if_neg h1]
            rw [this]) (fun _ _ => rfl)
      rw [h1]
      clear h1 sa sb hv'
      induction f with
      | zero => rfl
      | succ f ih =>
        rw [dot_succ, dot_succ]
        have ht : Gf.mul (if f = b then 0 else if f = a then 0 else u f) (v (swp a b f)) = Gf.mul (if f = b then 0 else if f = a then 0 else u f) (v f) := by
          by_cases h1 : f = b
          · rw [if_pos h1, Gf.zero_mul _ (hv _), Gf.zero_mul _ (hv _)]
          · by_cases h2 : f = a
            · rw [if_neg h1, if_pos h2, Gf.zero_mul _ (hv _), Gf.zero_mul _ (hv _)]
            · have : swp a b f = f := by unfold swp; rw [if_neg h2, if_neg h1]
              rw [this]
        rw [ht]
        congr 1
        have hgen : ∀ g, dot g (fun k => if k = b then 0 else if k = a then 0 else u k) (fun k => v (swp a b k)) = dot g (fun k => if k = b then 0 else if k = a then 0 else u k) v := by
          intro g
          induction g with
          | zero => rfl
          | succ g ih2 =>
            rw [dot_succ, dot_succ, ih2]
            congr 1
            by_cases h1 : g = b
            · rw [if_pos h1, Gf.zero_mul _ (hv _), Gf.zero_mul _ (hv _)]
            · by_cases h2 : g = a
              · rw [if_neg h1, if_pos h2, Gf.zero_mul _ (hv _), Gf.zero_mul _ (hv _)]
              · have : swp a b g = g := by unfold swp; rw [if_neg h2, if_neg h1]
                rw [this]
        exact hgen f
    rw [e, ← Nat.xor_assoc, ← Nat.xor_assoc, Nat.xor_comm (Gf.mul (u b) (v b))]

/-- What lay there at first is something times what lies there now. -/
def Undo (ra ca : Nat) (M0 M : List Nat) : Prop := ∃ G : Nat → Nat → Nat, (∀ i, B8 (G i)) ∧ ∀ i j, i < ra → j < ca → ent ca M0 i j = dot ra (G i) (fun t => ent ca M t j)
theorem Undo.refl {ra ca : Nat} {M : List Nat} (h : ∀ x ∈ M, x < 256) : Undo ra ca M M :=
  ⟨fun i k => if i = k then 1 else 0, fun i k => by show (if i = k then 1 else 0) < 256; split <;> omega, fun i j hi hj => (dot_one_left (fun t => ent_lt h t j) hi).symm⟩
theorem Undo.swap {ra ca p q : Nat} {M0 M M' : List Nat} (h : Undo ra ca M0 M) (hM : ∀ x ∈ M, x < 256) (hp : p < ra) (hq : q < ra) (e : ∀ i j, j < ca → ent ca M' i j = ent ca M (swp p q i) j) : Undo ra ca M0 M' := by
  obtain ⟨G, hG, hd⟩ := h
  refine ⟨fun i t => G i (swp p q t), fun i t => hG i _, fun i j hi hj => ?_⟩
  rw [hd i j hi hj, ← dot_swp (hG i) (fun t => ent_lt hM t j) hp hq]
  exact dot_congr (fun _ _ => rfl) (fun t _ => (e t j hj).symm)
theorem Undo.scale {ra ca k v w : Nat} {M0 M M' : List Nat} (h : Undo ra ca M0 M) (hM : ∀ x ∈ M, x < 256) (hv : v < 256) (hw : w < 256) (hvw : Gf.mul w v = 1) (e : ∀ i j, j < ca → ent ca M' i j = if i = k then Gf.mul (ent ca M i j) v else ent ca M i j) : Undo ra ca M0 M' := by
  obtain ⟨G, hG, hd⟩ := h
  refine ⟨fun i t => if t = k then Gf.mul (G i t) w else G i t, fun i t => by show (if t = k then Gf.mul (G i t) w else G i t) < 256; split <;> first | exact Gf.mul_lt _ (hG i t) | exact hG i t, fun i j hi hj => ?_⟩
  rw [hd i j hi hj]
  have key : ∀ f, dot f (G i) (fun t => ent ca M t j) = dot f (fun t => if t = k then Gf.mul (G i t) w else G i t) (fun t => ent ca M' t j) := by
    intro f
    induction f with
    | zero => rfl
    | succ f ih =>
      rw [dot_succ, dot_succ, ih]
      congr 1
      rw [e f j hj]
      by_cases hf : f = k
      · rw [if_pos hf, if_pos hf, Gf.mul_assoc (hG i f) hw (Gf.mul_lt _ (ent_lt hM f j)), Gf.mul_comm (ent_lt hM f j) hv, ← Gf.mul_assoc hw hv (ent_lt hM f j), hvw, Gf.one_mul _ (ent_lt hM f j)]
      · rw [if_neg hf, if_neg hf]
  exact key ra
theorem Undo.clear {ra ca r c : Nat} {M0 M M' : List Nat} (h : Undo ra ca M0 M) (hM : ∀ x ∈ M, x < 256) (hM' : ∀ x ∈ M', x < 256) (hr : r < ra) (e : ∀ i j, j < ca → ent ca M' i j = if i < ra ∧ i ≠ r then ent ca M i j ^^^ Gf.mul (ent ca M r j) (ent ca M i c) else ent ca M i j) : Undo ra ca M0 M' := by
  obtain ⟨G, hG, hd⟩ := h
  have hs : B8 (fun t => if t < ra ∧ t ≠ r then ent ca M t c else 0) := fun t => by show (if t < ra ∧ t ≠ r then ent ca M t c else 0) < 256; split <;> first | exact ent_lt hM t c | omega
  refine ⟨fun i t => G i t ^^^ (if t = r then dot ra (G i) (fun t => if t < ra ∧ t ≠ r then ent ca M t c else 0) else 0), fun i t => Gf.xor_lt (hG i t) (by split <;> first | exact dot_lt (hG i) ra | omega), fun i j hi hj => ?_⟩
  have hm' : B8 (fun t => ent ca M' t j) := fun t => ent_lt hM' t j
  have hrr : ent ca M' r j = ent ca M r j := by rw [e r j hj, if_neg (by omega)]
  have hmr : ent ca M r j < 256 := ent_lt hM r j
  rw [hd i j hi hj, dot_add_left (hG i) (fun t => by split <;> first | exact dot_lt (hG i) ra | omega), dot_single hm' hr, hrr]
  have e1 : dot ra (G i) (fun t => ent ca M t j) = dot ra (G i) (fun t => ent ca M' t j ^^^ Gf.mul (ent ca M r j) (if t < ra ∧ t ≠ r then ent ca M t c else 0)) := dot_congr (fun _ _ => rfl) (fun t ht => by
    rw [e t j hj]
    by_cases h : t < ra ∧ t ≠ r
    · rw [if_pos h, if_pos h, Nat.xor_assoc, Nat.xor_self, Nat.xor_zero]
    · rw [if_neg h, if_neg h, Gf.mul_zero, Nat.xor_zero])
  rw [e1, dot_add_right (hG i) hm' (fun t => Gf.mul_lt _ hmr), dot_smul_right hmr (hG i) hs, Gf.mul_comm hmr (dot_lt (hG i) ra)]
end Go.Proofs.Ytibinkppbdeofaa

/- Inverses, plainly: both ways; the inverse's inverse. -/

namespace Go.Proofs.Ytibinkppbdeofaa
set_option linter.unusedVariables false
set_option linter.unusedSimpArgs false

theorem undo_step {ra ca co c : Nat} {M0 : List Nat} {S : List Nat × List Nat × Nat} (lM : S.1.length = ra * ca) (lO : S.2.1.length = ra * co) (bM : ∀ x ∈ S.1, x < 256) (bO : ∀ x ∈ S.2.1, x < 256) (hr0 : S.2.2 ≤ ra) (h : Undo ra ca M0 S.1) (hc : c < ca) : Undo ra ca M0 (colStep ra ca co c S).1 := by
  obtain ⟨M, O, r⟩ := S
  dsimp only at lM lO bM bO hr0 h
  have hge := findP_ge M ca c (ra - r) r
  unfold colStep
  dsimp only
  by_cases hp : findP M ca c r (ra - r) < ra
  · rw [if_pos hp]
    have hne := findP_ne M ca c (ra - r) r (by omega)
    obtain ⟨p, hpe⟩ : ∃ p, p = findP M ca c r (ra - r) := ⟨_, rfl⟩
    rw [← hpe] at hp hge hne ⊢
    have hr : r < ra := by omega
    have lM1 : (swapL ca p r M).length = ra * ca := by rw [swapL_length]; exact lM
    have lO1 : (swapL co p r O).length = ra * co := by rw [swapL_length]; exact lO
    have bM1 := swapL_all (c := ca) (p := p) (q := r) bM
    have bO1 := swapL_all (c := co) (p := p) (q := r) bO
    obtain ⟨v, hv⟩ : ∃ v, v = Gf.inv ((swapL ca p r M).getD (r * ca + c) 0) := ⟨_, rfl⟩
    have hv256 : v < 256 := by rw [hv]; exact Gf.inv_lt _
    have eM1 : ∀ i j, j < ca → ent ca (swapL ca p r M) i j = ent ca M (swp p r i) j := fun i j hj => ent_swap lM hp hr hj
    have hpv : (swapL ca p r M).getD (r * ca + c) 0 = ent ca M p c := by have := eM1 r c hc; rw [swp_at] at this; exact this
    have hv1 : Gf.mul (ent ca M p c) v = 1 := by rw [hv, hpv]; exact Gf.inv_mul (ent_lt bM _ _) hne
    have ePM : pivM ca c p r M = scaleL ca r v (swapL ca p r M) := by rw [pivM, ← hv]
    have ePO : pivO ca co c p r M O = scaleL co r v (swapL co p r O) := by rw [pivO, ← hv]
    rw [ePM, ePO]
    have u1 := h.swap bM hp hr eM1
    have u2 := u1.scale (k := r) bM1 hv256 (ent_lt bM p c) hv1 (fun i j hj => ent_scale lM1 hr hj)
    have lM2 : (scaleL ca r v (swapL ca p r M)).length = ra * ca := by rw [scaleL_length]; exact lM1
    have lO2 : (scaleL co r v (swapL co p r O)).length = ra * co := by rw [scaleL_length]; exact lO1
    have bM2 := scaleL_all (c := ca) (k := r) (v := v) bM1
    have bO2 := scaleL_all (c := co) (k := r) (v := v) bO1
    exact u2.clear bM2 (clrAll_all bM2 bO2 ra).1 hr (ent_clr lM2 lO2 hc ra (Nat.le_refl ra)).1
  · rw [if_neg hp]; exact h
theorem undo_all {ra ca co : Nat} {B : Nat → Nat → Nat} {M O : List Nat} (hB : ∀ k, B8 (B k)) (lM : M.length = ra * ca) (lO : O.length = ra * co) (bM : ∀ x ∈ M, x < 256) (bO : ∀ x ∈ O, x < 256)
    (prod : ∀ i j, i < ra → j < ca → ent ca M i j = dot co (ent co O i) (fun k => B k j)) : ∀ c, c ≤ ca → Undo ra ca M (elim ra ca co M O c).1
  | 0, _ => Undo.refl bM
  | c + 1, hc => by
    have hs := steps_all hB lM lO bM bO prod c (by omega)
    rw [elim_succ]
    exact undo_step hs.lM hs.lO hs.bM hs.bO hs.rk (undo_all hB lM lO bM bO prod c (by omega)) (by omega)

theorem oneL_ent {n : Nat} : ∀ c, c ≤ n → ∀ i j, i < n → j < n → ent n (oneL n c) i j = if i = j ∧ i < c then 1 else 0
  | 0, _, i, j, hi, hj => by
    have : i * n + j < n * n := row_in hi hj
    rw [if_neg (by omega), ent, oneL_zero]; simp [List.getD, this]
  | c + 1, hc, i, j, hi, hj => by
    have ih := oneL_ent c (by omega) i j hi hj
    have hin : c * n + c < n * n := row_in (by omega) (by omega)
    rw [ent, oneL_succ]
    by_cases h : i = c
    · subst h
      by_cases hij : i = j
      · subst hij
        rw [getD_set_eq (by rw [oneL_length]; exact hin), if_pos ⟨rfl, by omega⟩]
      · rw [getD_set_ne (by omega), ← ent, ih, if_neg (by omega), if_neg (by omega)]
    · have hne : i * n + j ≠ c * n + c := by
        rcases row_apart (c := n) hj h with h2 | h2 <;> omega
      rw [getD_set_ne (by omega), ← ent, ih]
      by_cases h3 : i = j ∧ i < c
      · rw [if_pos h3, if_pos ⟨h3.1, by omega⟩]
      · rw [if_neg h3, if_neg (fun e => h3 ⟨e.1, by omega⟩)]
theorem oneL_one {n i j : Nat} (hi : i < n) (hj : j < n) : ent n (oneL n n) i j = if i = j then 1 else 0 := by
  rw [oneL_ent n (Nat.le_refl n) i j hi hj]
  by_cases h : i = j
  · rw [if_pos ⟨h, hi⟩, if_pos h]
  · rw [if_neg (fun e => h e.1), if_neg h]
theorem oneL_all (n : Nat) : ∀ c, ∀ x ∈ oneL n c, x < 256
  | 0 => by rw [oneL_zero]; intro x hx; rw [List.eq_of_mem_replicate hx]; decide
  | c + 1 => by
    rw [oneL_succ]
    intro x hx
    rcases List.mem_or_eq_of_mem_set hx with h | h
    · exact oneL_all n c x h
    · rw [h]; decide
theorem one_prod {n : Nat} {ns : List Nat} (hb : ∀ x ∈ ns, x < 256) : ∀ i j, i < n → j < n → ent n ns i j = dot n (ent n (oneL n n) i) (fun k => ent n ns k j) := fun i j hi hj => by
  rw [dot_congr (u' := fun k => if i = k then 1 else 0) (v' := fun k => ent n ns k j) (fun k hk => oneL_one hi hk) (fun _ _ => rfl), dot_one_left (fun k => ent_lt hb k j) hi]

/-- The inverse from the left. -/
theorem inv_left {n : Nat} {ns : List Nat} (hl : ns.length = n * n) (hb : ∀ x ∈ ns, x < 256) (hr : rankL n n ns = n) : ∀ i j, i < n → j < n → dot n (ent n (invO n ns) i) (fun k => ent n ns k j) = if i = j then 1 else 0 := by
  have hs := steps_all (B := fun k j => ent n ns k j) (fun k j => ent_lt hb k j) hl (oneL_length n n) hb (oneL_all n n) (one_prod hb) n (Nat.le_refl n)
  have hrk : (elim n n n ns (oneL n n) n).2.2 = n := by rw [rankL_of]; exact hr
  obtain ⟨lM, lO, bM, bO, rk, prod, ⟨pc, pc1, pc2, pc3⟩, zero⟩ := hs
  rw [hrk] at pc1 pc2 pc3
  have lo : ∀ t, t < n → t ≤ pc t := by
    intro t
    induction t with
    | zero => intro _; exact Nat.zero_le _
    | succ t ih => intro ht; have := pc2 t (t + 1) (by omega) ht; have := ih (by omega); omega
  have hi : ∀ d t, t + d + 1 = n → pc t ≤ t := by
    intro d
    induction d with
    | zero => intro t ht; have := pc1 t (by omega); omega
    | succ d ih => intro t ht; have := ih (t + 1) (by omega); have := pc2 t (t + 1) (by omega) (by omega); omega
  intro i j hi' hj
  have hpj : pc j = j := by have := lo j hj; have := hi (n - 1 - j) j (by omega); omega
  have := pc3 i j hi' hj
  rw [hpj] at this
  rw [← this, prod i j hi' hj]; rfl
theorem invO_all {n : Nat} {ns : List Nat} (hl : ns.length = n * n) (hb : ∀ x ∈ ns, x < 256) : ∀ x ∈ invO n ns, x < 256 :=
  (steps_all (B := fun k j => ent n ns k j) (fun k j => ent_lt hb k j) hl (oneL_length n n) hb (oneL_all n n) (one_prod hb) n (Nat.le_refl n)).bO

/-- Who undoes from the left undoes from the right. -/
theorem right_of_left {n : Nat} {x m : Nat → Nat → Nat} (hx : ∀ i, B8 (x i)) (hm : ∀ i, B8 (m i)) (h : ∀ i j, i < n → j < n → dot n (x i) (fun k => m k j) = if i = j then 1 else 0) : ∀ i j, i < n → j < n → dot n (m i) (fun k => x k j) = if i = j then 1 else 0 := by
  have hxc : ∀ j, B8 (fun k => x k j) := fun j k => hx k j
  have hmc : ∀ j, B8 (fun k => m k j) := fun j k => hm k j
  have hd8 : ∀ i j : Nat, (if i = j then 1 else 0) < 256 := fun i j => by split <;> omega
  obtain ⟨D, hD⟩ : ∃ D : Nat → Nat → Nat, D = fun i j => dot n (m i) (fun k => x k j) ^^^ (if i = j then 1 else 0) := ⟨_, rfl⟩
  have hD8 : ∀ i, B8 (D i) := fun i j => by rw [hD]; exact Gf.xor_lt (dot_lt (hm i) n) (hd8 i j)
  have hDc : ∀ j, B8 (fun k => D k j) := fun j k => hD8 k j
  have XD : ∀ i j, i < n → j < n → dot n (x i) (fun k => D k j) = 0 := fun i j hi hj => by
    have e : dot n (x i) (fun k => D k j) = dot n (x i) (fun k => dot n (m k) (fun t => x t j) ^^^ (if k = j then 1 else 0)) := by rw [hD]
    rw [e, dot_add_right (hx i) (fun k => dot_lt (hm k) n) (fun k => hd8 k j), ← dot_dot (hx i) hm (hxc j) n n, dot_one_right (hx i) hj,
      dot_congr (u' := fun t => if i = t then 1 else 0) (v' := fun k => x k j) (fun t ht => h i t hi ht) (fun _ _ => rfl), dot_one_left (hxc j) hi, Nat.xor_self]
  have DM : ∀ i j, i < n → j < n → dot n (D i) (fun k => m k j) = 0 := fun i j hi hj => by
    have e : dot n (D i) (fun k => m k j) = dot n (fun t => dot n (m i) (fun k => x k t) ^^^ (if i = t then 1 else 0)) (fun k => m k j) := by rw [hD]
    rw [e, dot_add_left (fun t => dot_lt (hm i) n) (fun t => hd8 i t), dot_dot (hm i) hx (hmc j) n n, dot_one_left (hmc j) hi,
      dot_congr (u' := m i) (v' := fun k => if k = j then 1 else 0) (fun _ _ => rfl) (fun k hk => h k j hk hj), dot_one_right (hm i) hj, Nat.xor_self]
  have DD : ∀ i j, i < n → j < n → dot n (D i) (fun k => D k j) = D i j := fun i j hi hj => by
    have e : dot n (D i) (fun k => D k j) = dot n (D i) (fun k => dot n (m k) (fun t => x t j) ^^^ (if k = j then 1 else 0)) := by
      refine dot_congr (fun _ _ => rfl) (fun k _ => ?_)
      rw [hD]
    rw [e, dot_add_right (hD8 i) (fun k => dot_lt (hm k) n) (fun k => hd8 k j), ← dot_dot (hD8 i) hm (hxc j) n n, dot_one_right (hD8 i) hj,
      dot_none_left (hxc j) (fun t ht => DM i t hi ht), Nat.zero_xor]
  intro i j hi hj
  by_cases hz : D i j = 0
  · rw [hD] at hz
    dsimp only at hz
    have := congrArg (fun z => z ^^^ (if i = j then 1 else 0)) hz
    try dsimp only at this
    rw [Nat.xor_assoc, Nat.xor_self, Nat.xor_zero, Nat.zero_xor] at this
    exact this
  · exfalso
    have hv := Gf.inv_lt (D i j)
    have hvd : Gf.mul (Gf.inv (D i j)) (D i j) = 1 := Gf.mul_inv (hD8 i j) hz
    have := id_le n (n + 1) (fun a => if a < n then x a else D i) (fun k b => if b < n then m k b else Gf.mul (Gf.inv (D i j)) (D k j))
      (fun a k => by (try dsimp only); split <;> first | exact hx a k | exact hD8 i k) (fun k b => by (try dsimp only); split <;> first | exact hm k b | exact Gf.mul_lt _ hv) (fun a b ha hb => by
        try dsimp only
        by_cases h1 : a < n
        · by_cases h2 : b < n
          · simp only [if_pos h1, if_pos h2]; exact h a b h1 h2
          · simp only [if_pos h1, if_neg h2]
            rw [dot_smul_right hv (hx a) (hDc j), XD a j h1 hj, Gf.mul_zero, if_neg (by omega)]
        · by_cases h2 : b < n
          · simp only [if_neg h1, if_pos h2]
            rw [DM i b hi h2, if_neg (by omega)]
          · simp only [if_neg h1, if_neg h2]
            rw [dot_smul_right hv (hD8 i) (hDc j), DD i j hi hj, hvd, if_pos (by omega)])
    omega
end Go.Proofs.Ytibinkppbdeofaa

/- The inverse's rank, and its inverse; products as matrices. -/

namespace Go.Proofs.Ytibinkppbdeofaa
set_option linter.unusedVariables false
set_option linter.unusedSimpArgs false

theorem dot_cut {u v : Nat → Nat} {r : Nat} : ∀ n, r ≤ n → (∀ k, r ≤ k → k < n → v k = 0) → dot n u v = dot r u v
  | 0, h, _ => by have : r = 0 := by omega
                  rw [this]
  | n + 1, h, hz => by
    by_cases hr : r = n + 1
    · rw [hr]
    · rw [dot_succ, hz n (by omega) (by omega), Gf.mul_zero, Nat.xor_zero, dot_cut n (by omega) (fun k h1 h2 => hz k h1 (by omega))]
theorem inv_rank {n : Nat} {ns : List Nat} (hl : ns.length = n * n) (hb : ∀ x ∈ ns, x < 256) (hr : rankL n n ns = n) : rankL n n (invO n ns) = n := by
  have lX := invO_length n ns
  have bX := invO_all hl hb
  have hs := steps_all (B := fun k j => ent n (invO n ns) k j) (fun k j => ent_lt bX k j) lX (oneL_length n n) bX (oneL_all n n) (one_prod bX) n (Nat.le_refl n)
  obtain ⟨G, hG, hd⟩ := undo_all (B := fun k j => ent n (invO n ns) k j) (fun k j => ent_lt bX k j) lX (oneL_length n n) bX (oneL_all n n) (one_prod bX) n (Nat.le_refl n)
  have hle := (rankL_le n n (invO n ns)).1
  have hrk : (elim n n n (invO n ns) (oneL n n) n).2.2 = rankL n n (invO n ns) := rankL_of n n n (invO n ns) (oneL n n)
  have hz := hs.zero
  have bF := hs.bM
  rw [hrk] at hz
  generalize (elim n n n (invO n ns) (oneL n n) n).1 = F at *
  have hX := inv_left hl hb hr
  have hm : ∀ j, B8 (fun k => ent n ns k j) := fun j k => ent_lt hb k j
  have := id_le (rankL n n (invO n ns)) n G (fun k j => dot n (ent n F k) (fun t => ent n ns t j)) hG (fun k j => dot_lt (ent_lt bF k) n) (fun i j hi hj => by
    rw [← hX i j hi hj, ← dot_cut n hle (fun k h1 h2 => dot_none_left (hm j) (fun t ht => hz k t h1 h2 ht)), ← dot_dot (hG i) (fun k => ent_lt bF k) (hm j) n n]
    exact dot_congr (fun t ht => (hd i t hi ht).symm) (fun _ _ => rfl))
  omega
theorem ent_ext {n : Nat} {l m : List Nat} (hl : l.length = n * n) (hm : m.length = n * n) (h : ∀ i j, i < n → j < n → ent n l i j = ent n m i j) : l = m := by
  apply list_getD_ext (by rw [hl, hm])
  intro p hp
  rw [hl] at hp
  have hn : 0 < n := by
    rcases Nat.eq_zero_or_pos n with e | e
    · rw [e] at hp; simp at hp
    · exact e
  have hi : p / n < n := Nat.div_lt_of_lt_mul hp
  have hj : p % n < n := Nat.mod_lt _ hn
  have e : p / n * n + p % n = p := by rw [Nat.mul_comm]; exact Nat.div_add_mod p n
  have := h (p / n) (p % n) hi hj
  rw [ent, ent, e] at this
  exact this
theorem inv_back {n : Nat} {ns : List Nat} (hl : ns.length = n * n) (hb : ∀ x ∈ ns, x < 256) (hr : rankL n n ns = n) : invO n (invO n ns) = ns := by
  have lX := invO_length n ns
  have bX := invO_all hl hb
  have h1 := inv_left hl hb hr
  have h2 := inv_left lX bX (inv_rank hl hb hr)
  have h3 := right_of_left (x := ent n (invO n ns)) (m := ent n ns) (fun i => ent_lt bX i) (fun i => ent_lt hb i) h1
  have b2 := invO_all lX bX
  have hx : ∀ j, B8 (fun k => ent n (invO n ns) k j) := fun j k => ent_lt bX k j
  have hm : ∀ j, B8 (fun k => ent n ns k j) := fun j k => ent_lt hb k j
  refine ent_ext (invO_length n _) hl (fun i j hi hj => ?_)
  have e1 : ent n (invO n (invO n ns)) i j = dot n (ent n (invO n (invO n ns)) i) (fun k => dot n (ent n (invO n ns) k) (fun t => ent n ns t j)) := by
    rw [dot_congr (u' := ent n (invO n (invO n ns)) i) (v' := fun k => if k = j then 1 else 0) (fun _ _ => rfl) (fun k hk => h1 k j hk hj), dot_one_right (ent_lt b2 i) hj]
  rw [e1, ← dot_dot (ent_lt b2 i) (fun k => ent_lt bX k) (hm j) n n, dot_congr (u' := fun t => if i = t then 1 else 0) (v' := fun t => ent n ns t j) (fun t ht => h2 i t hi ht) (fun _ _ => rfl), dot_one_left (hm j) hi]

theorem times_ent {ms bs : List Nat} {ra ca cb i j : Nat} (hi : i < ra) (hj : j < cb) : ent cb (timesL ms bs ra ca cb) i j = dot ca (ent ca ms i) (fun k => ent cb bs k j) := by
  have hp : i * cb + j < ra * cb := by have := row_fits (c := cb) hi; omega
  have hd : (i * cb + j) / cb = i := by rw [Nat.mul_comm, Nat.mul_add_div (by omega), Nat.div_eq_of_lt hj, Nat.add_zero]
  have hm : (i * cb + j) % cb = j := by rw [Nat.mul_comm, Nat.mul_add_mod, Nat.mod_eq_of_lt hj]
  have e : (timesL ms bs ra ca cb).getD (i * cb + j) 0 = dotK ms bs ca cb ((i * cb + j) / cb) ((i * cb + j) % cb) ca := by
    simp [timesL, List.getD, hp]
  rw [ent, e, hd, hm]; rfl
/-- A matrix times its inverse is one, both ways. -/
theorem times_inv {n : Nat} {ns : List Nat} (hl : ns.length = n * n) (hb : ∀ x ∈ ns, x < 256) (hr : rankL n n ns = n) : timesL ns (invO n ns) n n n = oneL n n ∧ timesL (invO n ns) ns n n n = oneL n n := by
  have bX := invO_all hl hb
  have h1 := inv_left hl hb hr
  have h3 := right_of_left (x := ent n (invO n ns)) (m := ent n ns) (fun i => ent_lt bX i) (fun i => ent_lt hb i) h1
  exact ⟨ent_ext (timesL_length _ _ _ _ _) (oneL_length n n) (fun i j hi hj => by rw [times_ent hi hj, oneL_one hi hj]; exact h3 i j hi hj),
    ent_ext (timesL_length _ _ _ _ _) (oneL_length n n) (fun i j hi hj => by rw [times_ent hi hj, oneL_one hi hj]; exact h1 i j hi hj)⟩
end Go.Proofs.Ytibinkppbdeofaa

/- What a product of two matrices makes of lanes is what both make in turn. -/

namespace Go.Proofs.Ytibinkppbdeofaa
set_option linter.unusedVariables false
set_option linter.unusedSimpArgs false

theorem dot_comm {u v : Nat → Nat} (hu : B8 u) (hv : B8 v) : ∀ f, dot f u v = dot f v u
  | 0 => rfl
  | f + 1 => by rw [dot_succ, dot_succ, dot_comm hu hv f, Gf.mul_comm (hu f) (hv f)]
/-- One byte of what a row makes, as a sum of products. -/
theorem rowLane_dot (ms : List Nat) (l : List ByteArray) (ca n i : Nat) {p : Nat} (hp : p < n) (k : Nat) :
    byN (rowLane ms l ca n i k) p = dot k (fun k => byN (l.getD k ByteArray.empty) p) (fun k => ms.getD (i * ca + k) 0) := rowLane_byte ms l ca n i hp k
theorem applyL_get {ms : List Nat} {l : List ByteArray} {ra ca n i : Nat} (h : i < ra) : (applyL ms l ra ca n).getD i ByteArray.empty = rowLane ms l ca n i ca := by
  simp [applyL, List.getD, h]
theorem rowLane_times {ms bs : List Nat} (ha : ∀ x ∈ ms, x < 256) (hb : ∀ x ∈ bs, x < 256) (l : List ByteArray) (ra ca cb n i : Nat) (hi : i < ra) :
    rowLane (timesL ms bs ra ca cb) l cb n i cb = rowLane ms (applyL bs l ca cb n) ca n i ca := by
  apply str_extM
  · rw [rowLane_size, rowLane_size]
  intro p hp
  rw [rowLane_size] at hp
  rw [rowLane_dot _ _ _ _ _ hp, rowLane_dot _ _ _ _ _ hp]
  have hL : B8 (fun k => byN (l.getD k ByteArray.empty) p) := fun k => byN_lt _ _
  have hM : B8 (fun j => ms.getD (i * ca + j) 0) := fun j => getD_lt' ha _
  have hB : ∀ j, B8 (fun k => bs.getD (j * cb + k) 0) := fun j k => getD_lt' hb _
  have hT : B8 (fun k => dot ca (fun j => ms.getD (i * ca + j) 0) (fun j => bs.getD (j * cb + k) 0)) := fun k => dot_lt hM _
  have e1 : dot cb (fun k => byN (l.getD k ByteArray.empty) p) (fun k => (timesL ms bs ra ca cb).getD (i * cb + k) 0)
      = dot cb (fun k => byN (l.getD k ByteArray.empty) p) (fun k => dot ca (fun j => ms.getD (i * ca + j) 0) (fun j => bs.getD (j * cb + k) 0)) :=
    dot_congr (fun _ _ => rfl) (fun k hk => times_ent (ms := ms) (bs := bs) hi hk)
  have e2 : dot ca (fun j => byN ((applyL bs l ca cb n).getD j ByteArray.empty) p) (fun j => ms.getD (i * ca + j) 0)
      = dot ca (fun j => dot cb (fun k => bs.getD (j * cb + k) 0) (fun k => byN (l.getD k ByteArray.empty) p)) (fun j => ms.getD (i * ca + j) 0) :=
    dot_congr (fun j hj => by rw [applyL_get hj, rowLane_dot _ _ _ _ _ hp, dot_comm hL (hB j)]) (fun _ _ => rfl)
  rw [e1, e2, dot_comm hL hT, dot_dot hM hB hL, dot_comm (fun j => dot_lt (hB j) _) hM]
theorem apply_times {ms bs : List Nat} (ha : ∀ x ∈ ms, x < 256) (hb : ∀ x ∈ bs, x < 256) (l : List ByteArray) (ra ca cb n : Nat) :
    applyL (timesL ms bs ra ca cb) l ra cb n = applyL ms (applyL bs l ca cb n) ra ca n := by
  rw [applyL, applyL]
  apply List.map_congr_left
  intro i hi
  exact rowLane_times ha hb l ra ca cb n i (List.mem_range.1 hi)
theorem applyL_sizes {ms : List Nat} {l : List ByteArray} {ra ca n : Nat} : ∀ s ∈ applyL ms l ra ca n, s.size = n := by
  intro s hs
  rw [applyL, List.mem_map] at hs
  obtain ⟨i, _, rfl⟩ := hs
  exact rowLane_size _ _ _ _ _ _
end Go.Proofs.Ytibinkppbdeofaa
