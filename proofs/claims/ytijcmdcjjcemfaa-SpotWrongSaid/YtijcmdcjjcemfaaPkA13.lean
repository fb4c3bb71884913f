/- Inverses, plainly: both ways; the inverse's inverse. -/
import Derived.Test.YtijcmdcjjcemfaaPkA12
import Derived.Test.YtijcmdcjjcemfaaPkA03
namespace Go.Proofs.Ytijcmdcjjcemfaa
set_option linter.unusedVariables false
set_option linter.unusedSimpArgs false

theorem undo_step {ra ca co c : Nat} {M0 : List Nat} {S : List Nat × List Nat × Nat} (lM : S.1.length = ra * ca) (lO : S.2.1.length = ra * co) (bM : ∀ x ∈ S.1, x < 256) (bO : ∀ x ∈ S.2.1, x < 256) (hr0 : S.2.2 ≤ ra) (h : Undo ra ca M0 S.1) (hc : c < ca) : Undo ra ca M0 (colStep ra ca co c S).1 := by
  obtain ⟨M, O, r⟩ := S
  dsimp only at lM lO bM bO hr0 h
  have hge := findP_ge M ca c (ra - r) r
  unfold colStep
  dsimp only
  by_cases hp : findP M ca c r (ra - r) < ra
  · rw [if_pos hp]
    have hne := findP_ne M ca c (ra - r) r (by omega)
    obtain ⟨p, hpe⟩ : ∃ p, p = findP M ca c r (ra - r) := ⟨_, rfl⟩
    rw [← hpe] at hp hge hne ⊢
    have hr : r < ra := by omega
    have lM1 : (swapL ca p r M).length = ra * ca := by rw [swapL_length]; exact lM
    have lO1 : (swapL co p r O).length = ra * co := by rw [swapL_length]; exact lO
    have bM1 := swapL_all (c := ca) (p := p) (q := r) bM
    have bO1 := swapL_all (c := co) (p := p) (q := r) bO
    obtain ⟨v, hv⟩ : ∃ v, v = Gf.inv ((swapL ca p r M).getD (r * ca + c) 0) := ⟨_, rfl⟩
    have hv256 : v < 256 := by rw [hv]; exact Gf.inv_lt _
    have eM1 : ∀ i j, j < ca → ent ca (swapL ca p r M) i j = ent ca M (swp p r i) j := fun i j hj => ent_swap lM hp hr hj
    have hpv : (swapL ca p r M).getD (r * ca + c) 0 = ent ca M p c := by have := eM1 r c hc; rw [swp_at] at this; exact this
    have hv1 : Gf.mul (ent ca M p c) v = 1 := by rw [hv, hpv]; exact Gf.inv_mul (ent_lt bM _ _) hne
    have ePM : pivM ca c p r M = scaleL ca r v (swapL ca p r M) := by rw [pivM, ← hv]
    have ePO : pivO ca co c p r M O = scaleL co r v (swapL co p r O) := by rw [pivO, ← hv]
    rw [ePM, ePO]
    have u1 := h.swap bM hp hr eM1
    have u2 := u1.scale (k := r) bM1 hv256 (ent_lt bM p c) hv1 (fun i j hj => ent_scale lM1 hr hj)
    have lM2 : (scaleL ca r v (swapL ca p r M)).length = ra * ca := by rw [scaleL_length]; exact lM1
    have lO2 : (scaleL co r v (swapL co p r O)).length = ra * co := by rw [scaleL_length]; exact lO1
    have bM2 := scaleL_all (c := ca) (k := r) (v := v) bM1
    have bO2 := scaleL_all (c := co) (k := r) (v := v) bO1
    exact u2.clear bM2 (clrAll_all bM2 bO2 ra).1 hr (ent_clr lM2 lO2 hc ra (Nat.le_refl ra)).1
  · rw [if_neg hp]; exact h
theorem undo_all {ra ca co : Nat} {B : Nat → Nat → Nat} {M O : List Nat} (hB : ∀ k, B8 (B k)) (lM : M.length = ra * ca) (lO : O.length = ra * co) (bM : ∀ x ∈ M, x < 256) (bO : ∀ x ∈ O, x < 256)
    (prod : ∀ i j, i < ra → j < ca → ent ca M i j = dot co (ent co O i) (fun k => B k j)) : ∀ c, c ≤ ca → Undo ra ca M (elim ra ca co M O c).1
  | 0, _ => Undo.refl bM
  | c + 1, hc => by
    have hs := steps_all hB lM lO bM bO prod c (by omega)
    rw [elim_succ]
    exact undo_step hs.lM hs.lO hs.bM hs.bO hs.rk (undo_all hB lM lO bM bO prod c (by omega)) (by omega)

theorem oneL_ent {n : Nat} : ∀ c, c ≤ n → ∀ i j, i < n → j < n → ent n (oneL n c) i j = if i = j ∧ i < c then 1 else 0
  | 0, _, i, j, hi, hj => by
    have : i * n + j < n * n := row_in hi hj
    rw [if_neg (by omega), ent, oneL_zero]; simp [List.getD, this]
  | c + 1, hc, i, j, hi, hj => by
    have ih := oneL_ent c (by omega) i j hi hj
    have hin : c * n + c < n * n := row_in (by omega) (by omega)
    rw [ent, oneL_succ]
    by_cases h : i = c
    · subst h
      by_cases hij : i = j
      · subst hij
        rw [getD_set_eq (by rw [oneL_length]; exact hin), if_pos ⟨rfl, by omega⟩]
      · rw [getD_set_ne (by omega), ← ent, ih, if_neg (by omega), if_neg (by omega)]
    · have hne : i * n + j ≠ c * n + c := by
        rcases row_apart (c := n) hj h with h2 | h2 <;> omega
      rw [getD_set_ne (by omega), ← ent, ih]
      by_cases h3 : i = j ∧ i < c
      · rw [if_pos h3, if_pos ⟨h3.1, by omega⟩]
      · rw [if_neg h3, if_neg (fun e => h3 ⟨e.1, by omega⟩)]
theorem oneL_one {n i j : Nat} (hi : i < n) (hj : j < n) : ent n (oneL n n) i j = if i = j then 1 else 0 := by
  rw [oneL_ent n (Nat.le_refl n) i j hi hj]
  by_cases h : i = j
  · rw [if_pos ⟨h, hi⟩, if_pos h]
  · rw [if_neg (fun e => h e.1), if_neg h]
theorem oneL_all (n : Nat) : ∀ c, ∀ x ∈ oneL n c, x < 256
  | 0 => by rw [oneL_zero]; intro x hx; rw [List.eq_of_mem_replicate hx]; decide
  | c + 1 => by
    rw [oneL_succ]
    intro x hx
    rcases List.mem_or_eq_of_mem_set hx with h | h
    · exact oneL_all n c x h
    · rw [h]; decide
theorem one_prod {n : Nat} {ns : List Nat} (hb : ∀ x ∈ ns, x < 256) : ∀ i j, i < n → j < n → ent n ns i j = dot n (ent n (oneL n n) i) (fun k => ent n ns k j) := fun i j hi hj => by
  rw [dot_congr (u' := fun k => if i = k then 1 else 0) (v' := fun k => ent n ns k j) (fun k hk => oneL_one hi hk) (fun _ _ => rfl), dot_one_left (fun k => ent_lt hb k j) hi]

/-- The inverse from the left. -/
theorem inv_left {n : Nat} {ns : List Nat} (hl : ns.length = n * n) (hb : ∀ x ∈ ns, x < 256) (hr : rankL n n ns = n) : ∀ i j, i < n → j < n → dot n (ent n (invO n ns) i) (fun k => ent n ns k j) = if i = j then 1 else 0 := by
  have hs := steps_all (B := fun k j => ent n ns k j) (fun k j => ent_lt hb k j) hl (oneL_length n n) hb (oneL_all n n) (one_prod hb) n (Nat.le_refl n)
  have hrk : (elim n n n ns (oneL n n) n).2.2 = n := by rw [rankL_of]; exact hr
  obtain ⟨lM, lO, bM, bO, rk, prod, ⟨pc, pc1, pc2, pc3⟩, zero⟩ := hs
  rw [hrk] at pc1 pc2 pc3
  have lo : ∀ t, t < n → t ≤ pc t := by
    intro t
    induction t with
    | zero => intro _; exact Nat.zero_le _
    | succ t ih => intro ht; have := pc2 t (t + 1) (by omega) ht; have := ih (by omega); omega
  have hi : ∀ d t, t + d + 1 = n → pc t ≤ t := by
    intro d
    induction d with
    | zero => intro t ht; have := pc1 t (by omega); omega
    | succ d ih => intro t ht; have := ih (t + 1) (by omega); have := pc2 t (t + 1) (by omega) (by omega); omega
  intro i j hi' hj
  have hpj : pc j = j := by have := lo j hj; have := hi (n - 1 - j) j (by omega); omega
  have := pc3 i j hi' hj
  rw [hpj] at this
  rw [← this, prod i j hi' hj]; rfl
theorem invO_all {n : Nat} {ns : List Nat} (hl : ns.length = n * n) (hb : ∀ x ∈ ns, x < 256) : ∀ x ∈ invO n ns, x < 256 :=
  (steps_all (B := fun k j => ent n ns k j) (fun k j => ent_lt hb k j) hl (oneL_length n n) hb (oneL_all n n) (one_prod hb) n (Nat.le_refl n)).bO

/-- Who undoes from the left undoes from the right. -/
theorem right_of_left {n : Nat} {x m : Nat → Nat → Nat} (hx : ∀ i, B8 (x i)) (hm : ∀ i, B8 (m i)) (h : ∀ i j, i < n → j < n → dot n (x i) (fun k => m k j) = if i = j then 1 else 0) : ∀ i j, i < n → j < n → dot n (m i) (fun k => x k j) = if i = j then 1 else 0 := by
  have hxc : ∀ j, B8 (fun k => x k j) := fun j k => hx k j
  have hmc : ∀ j, B8 (fun k => m k j) := fun j k => hm k j
  have hd8 : ∀ i j : Nat, (if i = j then 1 else 0) < 256 := fun i j => by split <;> omega
  obtain ⟨D, hD⟩ : ∃ D : Nat → Nat → Nat, D = fun i j => dot n (m i) (fun k => x k j) ^^^ (if i = j then 1 else 0) := ⟨_, rfl⟩
  have hD8 : ∀ i, B8 (D i) := fun i j => by rw [hD]; exact Gf.xor_lt (dot_lt (hm i) n) (hd8 i j)
  have hDc : ∀ j, B8 (fun k => D k j) := fun j k => hD8 k j
  have XD : ∀ i j, i < n → j < n → dot n (x i) (fun k => D k j) = 0 := fun i j hi hj => by
    have e : dot n (x i) (fun k => D k j) = dot n (x i) (fun k => dot n (m k) (fun t => x t j) ^^^ (if k = j then 1 else 0)) := by rw [hD]
    rw [e, dot_add_right (hx i) (fun k => dot_lt (hm k) n) (fun k => hd8 k j), ← dot_dot (hx i) hm (hxc j) n n, dot_one_right (hx i) hj,
      dot_congr (u' := fun t => if i = t then 1 else 0) (v' := fun k => x k j) (fun t ht => h i t hi ht) (fun _ _ => rfl), dot_one_left (hxc j) hi, Nat.xor_self]
  have DM : ∀ i j, i < n → j < n → dot n (D i) (fun k => m k j) = 0 := fun i j hi hj => by
    have e : dot n (D i) (fun k => m k j) = dot n (fun t => dot n (m i) (fun k => x k t) ^^^ (if i = t then 1 else 0)) (fun k => m k j) := by rw [hD]
    rw [e, dot_add_left (fun t => dot_lt (hm i) n) (fun t => hd8 i t), dot_dot (hm i) hx (hmc j) n n, dot_one_left (hmc j) hi,
      dot_congr (u' := m i) (v' := fun k => if k = j then 1 else 0) (fun _ _ => rfl) (fun k hk => h k j hk hj), dot_one_right (hm i) hj, Nat.xor_self]
  have DD : ∀ i j, i < n → j < n → dot n (D i) (fun k => D k j) = D i j := fun i j hi hj => by
    have e : dot n (D i) (fun k => D k j) = dot n (D i) (fun k => dot n (m k) (fun t => x t j) ^^^ (if k = j then 1 else 0)) := by
      refine dot_congr (fun _ _ => rfl) (fun k _ => ?_)
      rw [hD]
    rw [e, dot_add_right (hD8 i) (fun k => dot_lt (hm k) n) (fun k => hd8 k j), ← dot_dot (hD8 i) hm (hxc j) n n, dot_one_right (hD8 i) hj,
      dot_none_left (hxc j) (fun t ht => DM i t hi ht), Nat.zero_xor]
  intro i j hi hj
  by_cases hz : D i j = 0
  · rw [hD] at hz
    dsimp only at hz
    have := congrArg (fun z => z ^^^ (if i = j then 1 else 0)) hz
    try dsimp only at this
    rw [Nat.xor_assoc, Nat.xor_self, Nat.xor_zero, Nat.zero_xor] at this
    exact this
  · exfalso
    have hv := Gf.inv_lt (D i j)
    have hvd : Gf.mul (Gf.inv (D i j)) (D i j) = 1 := Gf.mul_inv (hD8 i j) hz
    have := id_le n (n + 1) (fun a => if a < n then x a else D i) (fun k b => if b < n then m k b else Gf.mul (Gf.inv (D i j)) (D k j))
      (fun a k => by (try dsimp only); split <;> first | exact hx a k | exact hD8 i k) (fun k b => by (try dsimp only); split <;> first | exact hm k b | exact Gf.mul_lt _ hv) (fun a b ha hb => by
        try dsimp only
        by_cases h1 : a < n
        · by_cases h2 : b < n
          · simp only [if_pos h1, if_pos h2]; exact h a b h1 h2
          · simp only [if_pos h1, if_neg h2]
            rw [dot_smul_right hv (hx a) (hDc j), XD a j h1 hj, Gf.mul_zero, if_neg (by omega)]
        · by_cases h2 : b < n
          · simp only [if_neg h1, if_pos h2]
            rw [DM i b hi h2, if_neg (by omega)]
          · simp only [if_neg h1, if_neg h2]
            rw [dot_smul_right hv (hD8 i) (hDc j), DD i j hi hj, hvd, if_pos (by omega)])
    omega
end Go.Proofs.Ytijcmdcjjcemfaa

/- The inverse's rank, and its inverse; products as matrices. -/

namespace Go.Proofs.Ytijcmdcjjcemfaa
set_option linter.unusedVariables false
set_option linter.unusedSimpArgs false

theorem dot_cut {u v : Nat → Nat} {r : Nat} : ∀ n, r ≤ n → (∀ k, r ≤ k → k < n → v k = 0) → dot n u v = dot r u v
  | 0, h, _ => by have : r = 0 := by omega
                  rw [this]
  | n + 1, h, hz => by
    by_cases hr : r = n + 1
    · rw [hr]
    · rw [dot_succ, hz n (by omega) (by omega), Gf.mul_zero, Nat.xor_zero, dot_cut n (by omega) (fun k h1 h2 => hz k h1 (by omega))]
theorem inv_rank {n : Nat} {ns : List Nat} (hl : ns.length = n * n) (hb : ∀ x ∈ ns, x < 256) (hr : rankL n n ns = n) : rankL n n (invO n ns) = n := by
  have lX := invO_length n ns
  have bX := invO_all hl hb
  have hs := steps_all (B := fun k j => ent n (invO n ns) k j) (fun k j => ent_lt bX k j) lX (oneL_length n n) bX (oneL_all n n) (one_prod bX) n (Nat.le_refl n)
  obtain ⟨G, hG, hd⟩ := undo_all (B := fun k j => ent n (invO n ns) k j) (fun k j => ent_lt bX k j) lX (oneL_length n n) bX (oneL_all n n) (one_prod bX) n (Nat.le_refl n)
  have hle := (rankL_le n n (invO n ns)).1
  have hrk : (elim n n n (invO n ns) (oneL n n) n).2.2 = rankL n n (invO n ns) := rankL_of n n n (invO n ns) (oneL n n)
  have hz := hs.zero
  have bF := hs.bM
  rw [hrk] at hz
  generalize (elim n n n (invO n ns) (oneL n n) n).1 = F at *
  have hX := inv_left hl hb hr
  have hm : ∀ j, B8 (fun k => ent n ns k j) := fun j k => ent_lt hb k j
  have := id_le (rankL n n (invO n ns)) n G (fun k j => dot n (ent n F k) (fun t => ent n ns t j)) hG (fun k j => dot_lt (ent_lt bF k) n) (fun i j hi hj => by
    rw [← hX i j hi hj, ← dot_cut n hle (fun k h1 h2 => dot_none_left (hm j) (fun t ht => hz k t h1 h2 ht)), ← dot_dot (hG i) (fun k => ent_lt bF k) (hm j) n n]
    exact dot_congr (fun t ht => (hd i t hi ht).symm) (fun _ _ => rfl))
  omega
theorem ent_ext {n : Nat} {l m : List Nat} (hl : l.length = n * n) (hm : m.length = n * n) (h : ∀ i j, i < n → j < n → ent n l i j = ent n m i j) : l = m := by
  apply list_getD_ext (by rw [hl, hm])
  intro p hp
  rw [hl] at hp
  have hn : 0 < n := by
    rcases Nat.eq_zero_or_pos n with e | e
    · rw [e] at hp; simp at hp
    · exact e
  have hi : p / n < n := Nat.div_lt_of_lt_mul hp
  have hj : p % n < n := Nat.mod_lt _ hn
  have e : p / n * n + p % n = p := by rw [Nat.mul_comm]; exact Nat.div_add_mod p n
  have := h (p / n) (p % n) hi hj
  rw [ent, ent, e] at this
  exact this
theorem inv_back {n : Nat} {ns : List Nat} (hl : ns.length = n * n) (hb : ∀ x ∈ ns, x < 256) (hr : rankL n n ns = n) : invO n (invO n ns) = ns := by
  have lX := invO_length n ns
  have bX := invO_all hl hb
  have h1 := inv_left hl hb hr
  have h2 := inv_left lX bX (inv_rank hl hb hr)
  have h3 := right_of_left (x := ent n (invO n ns)) (m := ent n ns) (fun i => ent_lt bX i) (fun i => ent_lt hb i) h1
  have b2 := invO_all lX bX
  have hx : ∀ j, B8 (fun k => ent n (invO n ns) k j) := fun j k => ent_lt bX k j
  have hm : ∀ j, B8 (fun k => ent n ns k j) := fun j k => ent_lt hb k j
  refine ent_ext (invO_length n _) hl (fun i j hi hj => ?_)
  have e1 : ent n (invO n (invO n ns)) i j = dot n (ent n (invO n (invO n ns)) i) (fun k => dot n (ent n (invO n ns) k) (fun t => ent n ns t j)) := by
    rw [dot_congr (u' := ent n (invO n (invO n ns)) i) (v' := fun k => if k = j then 1 else 0) (fun _ _ => rfl) (fun k hk => h1 k j hk hj), dot_one_right (ent_lt b2 i) hj]
  rw [e1, ← dot_dot (ent_lt b2 i) (fun k => ent_lt bX k) (hm j) n n, dot_congr (u' := fun t => if i = t then 1 else 0) (v' := fun t => ent n ns t j) (fun t ht => h2 i t hi ht) (fun _ _ => rfl), dot_one_left (hm j) hi]

theorem times_ent {ms bs : List Nat} {ra ca cb i j : Nat} (hi : i < ra) (hj : j < cb) : ent cb (timesL ms bs ra ca cb) i j = dot ca (ent ca ms i) (fun k => ent cb bs k j) := by
  have hp : i * cb + j < ra * cb := by have := row_fits (c := cb) hi; omega
  have hd : (i * cb + j) / cb = i := by rw [Nat.mul_comm, Nat.mul_add_div (by omega), Nat.div_eq_of_lt hj, Nat.add_zero]
  have hm : (i * cb + j) % cb = j := by rw [Nat.mul_comm, Nat.mul_add_mod, Nat.mod_eq_of_lt hj]
  have e : (timesL ms bs ra ca cb).getD (i * cb + j) 0 = dotK ms bs ca cb ((i * cb + j) / cb) ((i * cb + j) % cb) ca := by
    simp [timesL, List.getD, hp]
  rw [ent, e, hd, hm]; rfl
/-- A matrix times its inverse is one, both ways. -/
theorem times_inv {n : Nat} {ns : List Nat} (hl : ns.length = n * n) (hb : ∀ x ∈ ns, x < 256) (hr : rankL n n ns = n) : timesL ns (invO n ns) n n n = oneL n n ∧ timesL (invO n ns) ns n n n = oneL n n := by
  have bX := invO_all hl hb
  have h1 := inv_left hl hb hr
  have h3 := right_of_left (x := ent n (invO n ns)) (m := ent n ns) (fun i => ent_lt bX i) (fun i => ent_lt hb i) h1
  exact ⟨ent_ext (timesL_length _ _ _ _ _) (oneL_length n n) (fun i j hi hj => by rw [times_ent hi hj, oneL_one hi hj]; exact h3 i j hi hj),
    ent_ext (timesL_length _ _ _ _ _) (oneL_length n n) (fun i j hi hj => by rw [times_ent hi hj, oneL_one hi hj]; exact h1 i j hi hj)⟩
end Go.Proofs.Ytijcmdcjjcemfaa

/- Rows of powers of distinct numbers: a right inverse (plain). -/

namespace Go.Proofs.Ytijcmdcjjcemfaa
set_option linter.unusedVariables false
set_option linter.unusedSimpArgs false

/-- The coefficients of the product of all X + y. -/
def polyC : List Nat → Nat → Nat
  | [], 0 => 1
  | [], _ + 1 => 0
  | y :: ys, 0 => Gf.mul y (polyC ys 0)
  | y :: ys, k + 1 => polyC ys k ^^^ Gf.mul y (polyC ys (k + 1))
/-- That product at x. -/
def polyE (x : Nat) : List Nat → Nat
  | [] => 1
  | y :: ys => Gf.mul (x ^^^ y) (polyE x ys)
theorem polyC_lt : ∀ (ys : List Nat), (∀ y ∈ ys, y < 256) → ∀ k, polyC ys k < 256
  | [], _, 0 => by rw [polyC]; omega
  | [], _, _ + 1 => by rw [polyC]; omega
  | y :: ys, h, 0 => by rw [polyC]; exact Gf.mul_lt _ (h y (by simp))
  | y :: ys, h, k + 1 => by
    rw [polyC]
    exact Gf.xor_lt (polyC_lt ys (fun z hz => h z (by simp [hz])) k) (Gf.mul_lt _ (h y (by simp)))
theorem polyE_lt {x : Nat} (hx : x < 256) : ∀ (ys : List Nat), (∀ y ∈ ys, y < 256) → polyE x ys < 256
  | [], _ => by rw [polyE]; omega
  | y :: ys, h => by rw [polyE]; exact Gf.mul_lt _ (Gf.xor_lt hx (h y (by simp)))
theorem polyC_zero : ∀ (ys : List Nat) (k : Nat), ys.length < k → polyC ys k = 0
  | [], 0, h => by simp at h
  | [], _ + 1, _ => rfl
  | y :: ys, 0, h => by simp at h
  | y :: ys, k + 1, h => by
    rw [List.length_cons] at h
    rw [polyC, polyC_zero ys k (by omega), polyC_zero ys (k + 1) (by omega), Gf.mul_zero, Nat.xor_zero]
theorem dot_shift (u v : Nat → Nat) : ∀ f, dot (f + 1) u v = Gf.mul (u 0) (v 0) ^^^ dot f (fun k => u (k + 1)) (fun k => v (k + 1))
  | 0 => by rw [dot_succ, dot_zero, dot_zero, Nat.zero_xor, Nat.xor_zero]
  | f + 1 => by rw [dot_succ, dot_shift u v f, dot_succ, Nat.xor_assoc]
theorem pow_succ' {x : Nat} (hx : x < 256) (k : Nat) : Gf.pow x (k + 1) = Gf.mul x (Gf.pow x k) := by
  rw [Gf.pow, Gf.mul_comm (Gf.pow_lt x k) hx]
theorem poly_eval {x : Nat} (hx : x < 256) : ∀ (ys : List Nat), (∀ y ∈ ys, y < 256) → ∀ K, ys.length < K → dot K (fun k => Gf.pow x k) (polyC ys) = polyE x ys
  | [], _, 0, h => by simp at h
  | [], _, K + 1, h => by
    rw [dot_shift, dot_none_right (v := fun k => polyC [] (k + 1)) (fun k _ => rfl), Nat.xor_zero]
    exact Gf.one_mul 1 (by omega)
  | y :: ys, _, 0, h => by simp at h
  | y :: ys, hy, K + 1, h => by
    have hys : ∀ z ∈ ys, z < 256 := fun z hz => hy z (by simp [hz])
    have hy0 : y < 256 := hy y (by simp)
    have bC := polyC_lt ys hys
    have bp : B8 (fun k => Gf.pow x k) := fun k => Gf.pow_lt x k
    rw [List.length_cons] at h
    have e1 : dot (K + 1) (fun k => Gf.pow x k) (polyC (y :: ys)) = dot (K + 1) (fun k => Gf.pow x k) (fun k => (if k = 0 then 0 else polyC ys (k - 1)) ^^^ Gf.mul y (polyC ys k)) :=
      dot_congr (fun _ _ => rfl) (fun k _ => by
        cases k with
        | zero => rw [polyC, if_pos rfl, Nat.zero_xor]
        | succ k => rw [polyC, if_neg (by omega), Nat.add_sub_cancel])
    have b1 : B8 (fun k => if k = 0 then 0 else polyC ys (k - 1)) := fun k => by dsimp only; split; omega; exact bC _
    rw [e1, dot_add_right bp b1 (fun k => Gf.mul_lt _ hy0), dot_smul_right hy0 bp bC, poly_eval hx ys hys (K + 1) (by omega), dot_shift, if_pos rfl, Gf.mul_zero, Nat.zero_xor]
    have e2 : dot K (fun k => Gf.pow x (k + 1)) (fun k => if k + 1 = 0 then 0 else polyC ys (k + 1 - 1)) = Gf.mul x (dot K (fun k => Gf.pow x k) (polyC ys)) := by
      rw [← dot_smul_left hx bp bC]
      exact dot_congr (fun k _ => pow_succ' hx k) (fun k _ => by rw [if_neg (by omega), Nat.add_sub_cancel])
    rw [e2, poly_eval hx ys hys K (by omega), polyE, Gf.mul_xor_left _ hx hy0]
theorem polyE_zero {x : Nat} (hx : x < 256) : ∀ (ys : List Nat), x ∈ ys → (∀ y ∈ ys, y < 256) → polyE x ys = 0
  | [], h, _ => by simp at h
  | y :: ys, h, hy => by
    rw [polyE]
    rcases List.mem_cons.1 h with rfl | h
    · rw [Nat.xor_self, Gf.zero_mul _ (polyE_lt hx ys fun z hz => hy z (by simp [hz]))]
    · rw [polyE_zero hx ys h (fun z hz => hy z (by simp [hz])), Gf.mul_zero]
theorem xor_ne_zero {x y : Nat} (h : y ≠ x) : x ^^^ y ≠ 0 := by
  intro e
  have := congrArg (fun z => z ^^^ y) e
  simp only [Nat.xor_assoc, Nat.xor_self, Nat.xor_zero, Nat.zero_xor] at this
  exact h this.symm
theorem polyE_ne {x : Nat} (hx : x < 256) : ∀ (ys : List Nat), (∀ y ∈ ys, y ≠ x) → (∀ y ∈ ys, y < 256) → polyE x ys ≠ 0
  | [], _, _ => by rw [polyE]; omega
  | y :: ys, h, hy => by
    rw [polyE]
    have hys : ∀ z ∈ ys, z < 256 := fun z hz => hy z (by simp [hz])
    exact Gf.mul_ne (Gf.xor_lt hx (hy y (by simp))) (polyE_lt hx ys hys) (xor_ne_zero (h y (by simp))) (polyE_ne hx ys (fun z hz => h z (by simp [hz])) hys)

/-- A right inverse of the rows of powers of xs. -/
def lagr (xs : List Nat) (k j : Nat) : Nat := Gf.mul (Gf.inv (polyE (xs.getD j 0) (xs.eraseIdx j))) (polyC (xs.eraseIdx j) k)
theorem lagr_lt {xs : List Nat} (k : Nat) : B8 (lagr xs k) := fun j => Gf.mul_lt _ (Gf.inv_lt _)
theorem lagr_right {xs : List Nat} (hx : ∀ x ∈ xs, x < 256) (hd : xs.Nodup) {i j : Nat} (hi : i < xs.length) (hj : j < xs.length) :
    dot xs.length (fun k => Gf.pow (xs.getD i 0) k) (fun k => lagr xs k j) = if i = j then 1 else 0 := by
  have gi : xs.getD i 0 = xs[i] := by simp [List.getD, hi]
  have gj : xs.getD j 0 = xs[j] := by simp [List.getD, hj]
  have hxe : ∀ y ∈ xs.eraseIdx j, y < 256 := fun y hy => hx y (List.mem_of_mem_eraseIdx hy)
  have hlen : (xs.eraseIdx j).length < xs.length := by rw [List.length_eraseIdx, if_pos hj]; omega
  have bi : xs.getD i 0 < 256 := by rw [gi]; exact hx _ (List.getElem_mem _)
  unfold lagr
  rw [dot_smul_right (Gf.inv_lt _) (fun k => Gf.pow_lt _ k) (polyC_lt _ hxe), poly_eval bi _ hxe _ hlen]
  by_cases h : i = j
  · subst h
    rw [if_pos rfl]
    refine Gf.mul_inv (polyE_lt bi _ hxe) (polyE_ne bi _ (fun y hy e => ?_) hxe)
    obtain ⟨t, ht, hne, he⟩ := List.mem_eraseIdx_iff_getElem.1 hy
    rw [e, gi] at he
    exact hne ((List.getElem_inj hd).1 he)
  · rw [if_neg h, polyE_zero bi _ ?_ hxe, Gf.mul_zero]
    rw [gi]
    exact List.mem_eraseIdx_iff_getElem.2 ⟨i, hi, h, rfl⟩

/-- Who has a right inverse has the full rank. -/
theorem rank_right {n : Nat} {ns : List Nat} {Y : Nat → Nat → Nat} (hl : ns.length = n * n) (hb : ∀ x ∈ ns, x < 256) (hY : ∀ k, B8 (Y k))
    (h : ∀ i j, i < n → j < n → dot n (ent n ns i) (fun k => Y k j) = if i = j then 1 else 0) : rankL n n ns = n := by
  have hs := steps_all (B := fun k j => ent n ns k j) (fun k j => ent_lt hb k j) hl (oneL_length n n) hb (oneL_all n n) (one_prod hb) n (Nat.le_refl n)
  obtain ⟨G, hG, hd⟩ := undo_all (B := fun k j => ent n ns k j) (fun k j => ent_lt hb k j) hl (oneL_length n n) hb (oneL_all n n) (one_prod hb) n (Nat.le_refl n)
  have hle := (rankL_le n n ns).1
  have hrk : (elim n n n ns (oneL n n) n).2.2 = rankL n n ns := rankL_of n n n ns (oneL n n)
  have hz := hs.zero
  have bF := hs.bM
  rw [hrk] at hz
  generalize (elim n n n ns (oneL n n) n).1 = F at *
  have hm : ∀ j, B8 (fun k => Y k j) := fun j k => hY k j
  have := id_le (rankL n n ns) n G (fun k j => dot n (ent n F k) (fun t => Y t j)) hG (fun k j => dot_lt (ent_lt bF k) n) (fun i j hi hj => by
    rw [← h i j hi hj, ← dot_cut n hle (fun k h1 h2 => dot_none_left (hm j) (fun t ht => hz k t h1 h2 ht)), ← dot_dot (hG i) (fun k => ent_lt bF k) (hm j) n n]
    exact dot_congr (fun t ht => (hd i t hi ht).symm) (fun _ _ => rfl))
  omega
end Go.Proofs.Ytijcmdcjjcemfaa

/- Whether some row's number is none: slices.ContainsFunc over numbers, walked. -/

namespace Go.Proofs.Ytijcmdcjjcemfaa
open Go.ChangeShapes Go.WideShapes Go.ChangeAt Go.RowKit Go.Joins
set_option linter.unusedVariables false
set_option linter.unusedSimpArgs false

/-- A row's number that is none. -/
def badI (R x : Int) : Bool := decide (x < 0) || decide (R ≤ x)

set_option maxRecDepth 100000 in
theorem pickBad_is (x R : Int) (B : Nat) (b : Bool) (hb : badI R x = b) (w : World) (h : w.cell? ⟨B, 0, none⟩ = some (.int .i64 R)) :
    Calls Try.prog 69 #[.int .i64 x, .pointer (some ⟨B, 0, none⟩)] w fun e w' => e = .returned (.bool b) ∧ w = w' := by
  unfold badI at hb
  by_cases h1 : x < 0
  · have hd : decide (x < 0) = true := decide_eq_true h1
    rw [hd] at hb
    have HB : Hid (b = true) := by rw [Hid, ← hb]; rfl
    clear hb h1
    go_enter Try.func69, Try.ntmps69
    go_wp2_with fail
    go_ret
    exact ⟨by rw [HB.out]; rfl, rfl⟩
  · have hd : decide (x < 0) = false := decide_eq_false h1
    rw [hd] at hb
    by_cases h2 : R ≤ x
    · have he : decide (R ≤ x) = true := decide_eq_true h2
      rw [he] at hb
      have HB : Hid (b = true) := by rw [Hid, ← hb]; rfl
      clear hb h1
      go_enter Try.func69, Try.ntmps69
      go_wp2_with fail
      go_ret
      exact ⟨by rw [HB.out]; rfl, rfl⟩
    · have he : decide (R ≤ x) = false := decide_eq_false h2
      rw [he] at hb
      have HB : Hid (b = false) := by rw [Hid, ← hb]; rfl
      clear hb h1
      go_enter Try.func69, Try.ntmps69
      go_wp2_with fail
      go_ret
      exact ⟨by rw [HB.out]; rfl, rfl⟩

/-- Where the first such one is, or -1. -/
def BadAt (R : Int) (zs : List Int) (w : World) (e : Ending) (w' : World) : Prop := ∃ p : Int, e = .returned (.int .i64 p) ∧ Hid (decide (0 ≤ p) = zs.any (badI R)) ∧ w = w'

set_option maxRecDepth 100000 in
set_option maxHeartbeats 1000000 in
theorem indexBad_any (v : Value) (zs : List Int) (R : Int) (B : Nat) (w : World) (hN : NumsIn w v zs) (h : w.cell? ⟨B, 0, none⟩ = some (.int .i64 R)) :
    Calls Try.prog 81 #[v, .func (.func 69) #[] #[.pointer (some ⟨B, 0, none⟩)]] w (BadAt R zs w) := by
  have hbd := hN.1
  obtain ⟨p, cap, rfl, hS⟩ := numsIn_slice hN
  have hl := hS.1
  have HS := Lib.hid hS
  have HBD := Lib.hid hbd
  clear hN hS hbd
  go_enter Try.func81, Try.ntmps81
  go_wp2_with fail
  go_loop [8] (fun i => ∃ k : Nat, i = .int .i64 k ∧ k ≤ zs.length ∧ Hid ((zs.take k).any (badI R) = false)) (fun i => zs.length - (intOf i).toNat)
  case atStart => exact ⟨0, rfl, by omega, by simp [Hid]⟩
  case round =>
    obtain ⟨k, rfl, hk, HK⟩ := hrel
    by_cases hlt : k < zs.length
    · obtain ⟨b, off, x, rfl, hx, HX, hcell⟩ := num_at HS.out HBD.out hlt
      have i0 : (0 : Int) ≤ (k : Int) := by omega
      have i1 : (k : Int) < (zs.length : Int) := by omega
      have HT : Hid ((zs.take (k + 1)).any (badI R) = badI R x) := by
        rw [Hid, List.take_succ_eq_append_getElem hlt, List.any_append, HK.out]
        simp [HX.out, List.getD, hlt]
      cases hb : badI R x
      · have HBX := Lib.hid hb
        clear hb
        go_wp2_with (first | (go_at_call 69; refine (pickBad_is x R B false HBX.out _ h).mono ?_; rintro e w' ⟨rfl, rfl⟩))
        go_round
        case rel => exact ⟨k + 1, by go_num, by omega, by rw [Hid, HT.out]; exact HBX.out⟩
        case measure => simp [intOf]; omega
      · have HBX := Lib.hid hb
        clear hb
        go_wp2_with (first | (go_at_call 69; refine (pickBad_is x R B true HBX.out _ h).mono ?_; rintro e w' ⟨rfl, rfl⟩))
        go_ret
        refine ⟨_, rfl, ?_, rfl⟩
        rw [Hid, decide_eq_true (by omega)]
        symm
        rw [List.any_eq_true]
        have h1 := HT.out
        rw [HBX.out, List.any_eq_true] at h1
        obtain ⟨y, hy, hyb⟩ := h1
        exact ⟨y, List.mem_of_mem_take hy, hyb⟩
    · have hke : k = zs.length := by omega
      have HT : Hid (zs.any (badI R) = false) := by
        have := HK.out
        rw [hke, List.take_length] at this
        exact this
      clear hke
      go_wp2_with fail
      go_ret
      exact ⟨_, rfl, by rw [Hid, HT.out]; rfl, rfl⟩

set_option maxRecDepth 100000 in
theorem containsBad_is (v : Value) (zs : List Int) (R : Int) (B : Nat) (b : Bool) (hb : zs.any (badI R) = b) (w : World) (hN : NumsIn w v zs) (h : w.cell? ⟨B, 0, none⟩ = some (.int .i64 R)) :
    Calls Try.prog 72 #[v, .func (.func 69) #[] #[.pointer (some ⟨B, 0, none⟩)]] w fun e w' => e = .returned (.bool b) ∧ w = w' := by
  have HI := Lib.hid (indexBad_any v zs R B w hN h)
  have HB := Lib.hid hb
  clear hN h hb
  go_enter Try.func72, Try.ntmps72
  go_wp2_with fail
  refine HI.out.mono ?_
  rintro e w' ⟨p, rfl, HP, rfl⟩
  go_wp2_with fail
  go_ret
  exact ⟨by show Ending.returned (.bool (decide (0 ≤ p))) = _; rw [HP.out, HB.out], rfl⟩
end Go.Proofs.Ytijcmdcjjcemfaa
