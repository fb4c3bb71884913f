/- The generator, plainly: any K of its rows have a full rank. -/
import Derived.Test.YtijcmdcjjcemfaaPkA13
import Derived.Test.YtijcmdcjjcemfaaPkA15
namespace Go.Proofs.Ytijcmdcjjcemfaa
set_option linter.unusedVariables false
set_option linter.unusedSimpArgs false

/-- Row i holds the powers of 2 multiplied i times. -/
def vandL (n K : Nat) : List Nat := (List.range (n * K)).map fun p => Gf.pow (Gf.pow 2 (p / K)) (p % K)
theorem vandL_len (n K : Nat) : (vandL n K).length = n * K := by simp [vandL]
theorem vandL_lt (n K : Nat) : ∀ x ∈ vandL n K, x < 256 := by
  intro x hx
  obtain ⟨p, _, rfl⟩ := List.mem_map.1 hx
  exact Gf.pow_lt _ _
theorem vandL_at {n K i k : Nat} (hi : i < n) (hk : k < K) : (vandL n K).getD (i * K + k) 0 = Gf.pow (Gf.pow 2 i) k := by
  have hp : i * K + k < n * K := by have := row_fits (c := K) hi; omega
  have hd : (i * K + k) / K = i := by rw [Nat.mul_comm, Nat.mul_add_div (by omega), Nat.div_eq_of_lt hk, Nat.add_zero]
  have hm : (i * K + k) % K = k := by rw [Nat.mul_comm, Nat.mul_add_mod, Nat.mod_eq_of_lt hk]
  have e : (vandL n K).getD (i * K + k) 0 = Gf.pow (Gf.pow 2 ((i * K + k) / K)) ((i * K + k) % K) := by simp [vandL, List.getD, hp]
  rw [e, hd, hm]
theorem vandL_ent {n K i k : Nat} (hi : i < n) (hk : k < K) : ent K (vandL n K) i k = Gf.pow (Gf.pow 2 i) k := vandL_at hi hk

/-- A list filled up to a place, 0 behind. -/
def fillL (L : List Nat) (p : Nat) : List Nat := L.take p ++ List.replicate (L.length - p) 0
theorem fillL_zero (L : List Nat) : fillL L 0 = List.replicate L.length 0 := by simp [fillL]
theorem fillL_all (L : List Nat) : fillL L L.length = L := by simp [fillL]
theorem fillL_len {L : List Nat} {p : Nat} (h : p ≤ L.length) : (fillL L p).length = L.length := by simp [fillL]; omega
theorem fillL_set {L : List Nat} {p : Nat} (h : p < L.length) : (fillL L p).set p (L.getD p 0) = fillL L (p + 1) := by
  apply List.ext_getElem?
  intro i
  rw [List.getElem?_set, fillL_len (by omega)]
  unfold fillL
  by_cases hi : p = i
  · subst hi
    rw [if_pos rfl, if_pos h, List.getElem?_append_left (by simp; omega)]
    simp [List.getD, h]
  · rw [if_neg hi]
    by_cases hlt : i < p
    · rw [List.getElem?_append_left (by simp; omega), List.getElem?_append_left (by simp; omega)]
      simp [List.getElem?_take, hlt, show i < p + 1 by omega]
    · rw [List.getElem?_append_right (by simp; omega), List.getElem?_append_right (by simp; omega)]
      simp only [List.length_take, List.getElem?_replicate]
      have e1 : min p L.length = p := by omega
      have e2 : min (p + 1) L.length = p + 1 := by omega
      rw [e1, e2]
      by_cases hl : i < L.length
      · rw [if_pos (by omega), if_pos (by omega)]
      · rw [if_neg (by omega), if_neg (by omega)]

theorem pick_all' {ms : List Nat} {c : Nat} {zs : List Int} (h : ∀ x ∈ ms, x < 256) : ∀ x ∈ pickL ms c zs, x < 256 := by
  intro x hx
  obtain ⟨z, _, hz⟩ := List.mem_flatMap.1 hx
  exact rowN_lt h x hz
theorem pick_ent {ms : List Nat} {c : Nat} : ∀ {zs : List Int}, (∀ z ∈ zs, (z.toNat + 1) * c ≤ ms.length) → ∀ {i j : Nat}, i < zs.length → j < c → ent c (pickL ms c zs) i j = ent c ms (zs.getD i 0).toNat j
  | [], _, i, j, h, _ => by simp at h
  | z :: zs, hz, i, j, hi, hj => by
    have hl : (rowN ms c z.toNat).length = c := rowN_length (hz z (by simp))
    have e : pickL ms c (z :: zs) = rowN ms c z.toNat ++ pickL ms c zs := rfl
    rw [ent, e]
    cases i with
    | zero =>
      rw [Nat.zero_mul, Nat.zero_add, List.getD_eq_getElem?_getD, List.getElem?_append_left (by omega), ← List.getD_eq_getElem?_getD, rowN_get hj]
      rfl
    | succ i =>
      have h1 : (i + 1) * c + j = c + (i * c + j) := by rw [Nat.succ_mul]; omega
      rw [h1, List.getD_eq_getElem?_getD, List.getElem?_append_right (by omega), hl, Nat.add_sub_cancel_left, ← List.getD_eq_getElem?_getD]
      have := pick_ent (zs := zs) (fun y hy => hz y (by simp [hy])) (i := i) (j := j) (by simp at hi; omega) hj
      rw [ent] at this
      rw [this]
      rfl

/-- So many numbers of rows, each once. -/
structure RowsOk (n K : Nat) (zs : List Int) : Prop where
  len : zs.length = K
  nd : zs.Nodup
  lt : ∀ z ∈ zs, 0 ≤ z ∧ z < (n : Int)
theorem RowsOk.fits {n K : Nat} {zs : List Int} (h : RowsOk n K zs) {ms : List Nat} (hl : ms.length = n * K) : ∀ z ∈ zs, (z.toNat + 1) * K ≤ ms.length := by
  intro z hz
  have := h.lt z hz
  rw [hl]
  exact Nat.mul_le_mul_right K (by omega)
theorem RowsOk.at_ {n K : Nat} {zs : List Int} (h : RowsOk n K zs) {i : Nat} (hi : i < K) : (zs.getD i 0).toNat < n := by
  have hi' : i < zs.length := by rw [h.len]; exact hi
  have := h.lt (zs.getD i 0) (by rw [← List.getElem_eq_getD (h := hi')]; exact List.getElem_mem _)
  omega
/-- The points of these rows. -/
def pts (zs : List Int) : List Nat := zs.map fun z => Gf.pow 2 z.toNat
theorem pts_len (zs : List Int) : (pts zs).length = zs.length := by simp [pts]
theorem pts_lt (zs : List Int) : ∀ x ∈ pts zs, x < 256 := by
  intro x hx
  obtain ⟨z, _, rfl⟩ := List.mem_map.1 hx
  exact Gf.pow_lt _ _
theorem pts_at {zs : List Int} {i : Nat} (h : i < zs.length) : (pts zs).getD i 0 = Gf.pow 2 (zs.getD i 0).toNat := by simp [pts, List.getD, h]
theorem pts_nodup {n K : Nat} {zs : List Int} (h : RowsOk n K zs) (hn : n ≤ 200) : (pts zs).Nodup := by
  have hnd := h.nd
  have hlt := h.lt
  clear h
  induction zs with
  | nil => exact List.nodup_nil
  | cons z zs ih =>
    obtain ⟨h1, h2⟩ := List.nodup_cons.1 hnd
    refine List.nodup_cons.2 ⟨fun hm => ?_, ih h2 (fun y hy => hlt y (by simp [hy]))⟩
    obtain ⟨y, hy, he⟩ := List.mem_map.1 hm
    have b1 := hlt z (by simp)
    have b2 := hlt y (by simp [hy])
    dsimp only at he
    rw [Gf.pow_two, Gf.pow_two] at he
    have := Gf.up_inj (by omega) (by omega) he
    have e : y = z := by omega
    exact h1 (e ▸ hy)
theorem pick_right {n K : Nat} {zs : List Int} (h : RowsOk n K zs) (hn : n ≤ 200) {i j : Nat} (hi : i < K) (hj : j < K) :
    dot K (ent K (pickL (vandL n K) K zs) i) (fun k => lagr (pts zs) k j) = if i = j then 1 else 0 := by
  have hz := h.fits (vandL_len n K)
  have hl := h.len
  have e := lagr_right (xs := pts zs) (pts_lt zs) (pts_nodup h hn) (i := i) (j := j) (by rw [pts_len, hl]; exact hi) (by rw [pts_len, hl]; exact hj)
  rw [pts_len, hl] at e
  rw [← e]
  refine dot_congr (fun k hk => ?_) (fun _ _ => rfl)
  rw [pick_ent hz (by rw [hl]; exact hi) hk, vandL_ent (h.at_ hi) hk, pts_at (by rw [hl]; exact hi)]
theorem rank_pick {n K : Nat} {zs : List Int} (h : RowsOk n K zs) (hn : n ≤ 200) : rankL K K (pickL (vandL n K) K zs) = K :=
  rank_right (by rw [rowL_length (h.fits (vandL_len n K)), h.len]) (pick_all' (vandL_lt n K)) (fun k => lagr_lt k) (fun i j hi hj => pick_right h hn hi hj)

theorem firstOk {n K : Nat} (h : K ≤ n) : RowsOk n K (firstL K) := by
  refine ⟨firstL_len K, ?_, fun z hz => ?_⟩
  · unfold firstL
    exact List.Pairwise.map _ (fun a b hab e => hab (Int.ofNat.inj e)) List.nodup_range
  · have := firstL_mem hz
    omega
/-- The first rows. -/
def topL (n K : Nat) : List Nat := pickL (vandL n K) K (firstL K)
theorem topL_len {n K : Nat} (h : K ≤ n) : (topL n K).length = K * K := by rw [topL, rowL_length ((firstOk h).fits (vandL_len n K)), firstL_len]
theorem topL_lt (n K : Nat) : ∀ x ∈ topL n K, x < 256 := pick_all' (vandL_lt n K)
theorem topL_rank {n K : Nat} (h : K ≤ n) (hn : n ≤ 200) : rankL K K (topL n K) = K := rank_pick (firstOk h) hn
/-- The generator. -/
def genL (n K : Nat) : List Nat := timesL (vandL n K) (invO K (topL n K)) n K K
theorem genL_len (n K : Nat) : (genL n K).length = n * K := timesL_length _ _ _ _ _
theorem genL_lt (n K : Nat) : ∀ x ∈ genL n K, x < 256 := by
  intro x hx
  obtain ⟨p, _, rfl⟩ := List.mem_map.1 hx
  exact dotK_lt (vandL_lt n K) _ _ _ _ _
theorem dot_three {n K : Nat} {u : Nat → Nat} {A B : List Nat} {j : Nat} (hu : B8 u) (hA : ∀ x ∈ A, x < 256) (hB : ∀ k, B8 (fun j => ent K B k j)) :
    dot K (fun t => dot K u (fun k => ent K A k t)) (fun t => ent K B t j) = dot K u (fun k => dot K (ent K A k) (fun t => ent K B t j)) :=
  dot_dot hu (fun k => ent_lt hA k) (fun t => hB t j) K K
theorem rank_gen {n K : Nat} {zs : List Int} (h : RowsOk n K zs) (hK : K ≤ n) (hn : n ≤ 200) : rankL K K (pickL (genL n K) K zs) = K := by
  have hz := h.fits (genL_len n K)
  have hzv := h.fits (vandL_len n K)
  have bT := topL_lt n K
  have lT := topL_len hK
  have bI := invO_all lT bT
  have hI := inv_left lT bT (topL_rank hK hn)
  have hY : ∀ k, B8 (fun j => lagr (pts zs) k j) := fun k => lagr_lt k
  have hYc : ∀ j, B8 (fun k => lagr (pts zs) k j) := fun j k => lagr_lt k j
  have bV : ∀ i, B8 (ent K (pickL (vandL n K) K zs) i) := fun i => ent_lt (pick_all' (vandL_lt n K)) i
  refine rank_right (Y := fun k j => dot K (ent K (topL n K) k) (fun t => lagr (pts zs) t j)) (by rw [rowL_length hz, h.len]) (pick_all' (genL_lt n K)) (fun k j => dot_lt (ent_lt bT k) K) (fun i j hi hj => ?_)
  rw [← pick_right h hn hi hj]
  -- row i of the generator is row i of the powers times the inverse
  have e1 : ∀ t, t < K → ent K (pickL (genL n K) K zs) i t = dot K (ent K (pickL (vandL n K) K zs) i) (fun k => ent K (invO K (topL n K)) k t) := fun t ht => by
    rw [pick_ent hz (by rw [h.len]; exact hi) ht, genL, times_ent (h.at_ hi) ht]
    exact dot_congr (fun k hk => (pick_ent hzv (by rw [h.len]; exact hi) hk).symm) (fun _ _ => rfl)
  rw [dot_congr (u' := fun t => dot K (ent K (pickL (vandL n K) K zs) i) (fun k => ent K (invO K (topL n K)) k t)) (v' := fun t => dot K (ent K (topL n K) t) (fun s => lagr (pts zs) s j)) e1 (fun _ _ => rfl),
    dot_dot (bV i) (fun k => ent_lt bI k) (fun t => dot_lt (ent_lt bT t) K) K K]
  refine dot_congr (fun _ _ => rfl) (fun k hk => ?_)
  rw [← dot_dot (ent_lt bI k) (fun t => ent_lt bT t) (hYc j) K K,
    dot_congr (u' := fun s => if k = s then 1 else 0) (v' := fun s => lagr (pts zs) s j) (fun s hs => hI k s hk hs) (fun _ _ => rfl), dot_one_left (hYc j) hk]
end Go.Proofs.Ytijcmdcjjcemfaa
