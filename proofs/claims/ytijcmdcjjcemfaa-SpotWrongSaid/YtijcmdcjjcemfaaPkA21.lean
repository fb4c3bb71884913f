/- Any K pieces tell all; two unlike data's pieces are unlike in more than M places (plain). -/
import Derived.Test.YtijcmdcjjcemfaaPkA20
import Derived.OrdersHeld
import Derived.Deep.RegionHeld
import Derived.Deep.RegionHeld3
import Derived.Deep.CutBlock
import Derived.Test.YtijcmdcjjcemfaaPkA14
namespace Go.Proofs.Ytijcmdcjjcemfaa
set_option linter.unusedVariables false
set_option linter.unusedSimpArgs false

/-- How many of the first so many are there. -/
def cntT (bs : List Bool) : Nat → Nat
  | 0 => 0
  | i + 1 => cntT bs i + if bs.getD i false = true then 1 else 0
theorem haveN_cnt (bs : List Bool) (K : Nat) : ∀ i, (haveN bs K i).length = min K (cntT bs i)
  | 0 => by simp [haveN, cntT]
  | i + 1 => by
    have ih := haveN_cnt bs K i
    rw [haveN, cntT]
    by_cases h : bs.getD i false = true
    · by_cases hk : (haveN bs K i).length < K
      · rw [if_pos ⟨h, hk⟩, if_pos h, List.length_append]
        simp
        omega
      · rw [if_neg (fun x => hk x.2), if_pos h]
        omega
    · rw [if_neg (fun x => h x.1), if_neg h]
      omega
theorem rowLane_congr {ms ms' : List Nat} (l : List ByteArray) (ca n i i' : Nat) : ∀ k, (∀ j, j < k → ms.getD (i * ca + j) 0 = ms'.getD (i' * ca + j) 0) → rowLane ms l ca n i k = rowLane ms' l ca n i' k
  | 0, _ => by rw [rowLane_zero, rowLane_zero]
  | k + 1, h => by
    rw [rowLane_succ, rowLane_succ, rowLane_congr l ca n i i' k (fun j hj => h j (by omega)), h k (by omega)]
theorem applyL_at {ms : List Nat} {l : List ByteArray} {ra ca n i : Nat} (h : i < ra) (h' : i < (applyL ms l ra ca n).length) : (applyL ms l ra ca n)[i] = rowLane ms l ca n i ca := by simp [applyL]
theorem given_pick {n K Z : Nat} {zs : List Int} (h : RowsOk n K zs) (g : List Nat) (hg : g.length = n * K) (d : List ByteArray) :
    givenL zs (applyL g d n K Z) = applyL (pickL g K zs) d K K Z := by
  apply List.ext_getElem
  · rw [givenL_len, applyL_length, h.len]
  · intro i h1 h2
    rw [givenL_len, h.len] at h1
    have hz := h.at_ h1
    have hi : i < zs.length := by rw [h.len]; exact h1
    rw [applyL_at h1]
    have e : (givenL zs (applyL g d n K Z))[i]'(by rw [givenL_len]; exact hi) = (applyL g d n K Z).getD (zs.getD i 0).toNat ByteArray.empty := by
      simp [givenL, List.getD, hi]
    rw [e, applyL_get hz]
    refine rowLane_congr d K Z _ _ K (fun j hj => ?_)
    have := pick_ent (h.fits hg) hi hj
    rw [ent, ent] at this
    exact this.symm
theorem applyL_one {K Z : Nat} {d : List ByteArray} (hl : d.length = K) (hz : ∀ s ∈ d, s.size = Z) : applyL (oneL K K) d K K Z = d := by
  apply List.ext_getElem
  · rw [applyL_length, hl]
  · intro i h1 h2
    rw [applyL_length] at h1
    rw [applyL_at h1]
    have hs : (d[i]).size = Z := hz _ (List.getElem_mem h2)
    apply str_extM
    · rw [rowLane_size, hs]
    · intro p hp
      rw [rowLane_size] at hp
      have hb : B8 (fun k => byN (d.getD k ByteArray.empty) p) := fun k => byN_lt _ _
      rw [rowLane_dot _ _ _ _ _ hp, dot_congr (u' := fun k => byN (d.getD k ByteArray.empty) p) (v' := fun k => if k = i then 1 else 0) (fun _ _ => rfl) (fun k hk => ?_), dot_one_right hb h1]
      · rw [← List.getElem_eq_getD (h := h2)]
      · have := oneL_one h1 hk
        rw [ent] at this
        rw [this]
        by_cases e : i = k
        · rw [if_pos e, if_pos e.symm]
        · rw [if_neg e, if_neg (fun x => e x.symm)]
/-- Any K pieces tell the data. -/
theorem recover {n K Z : Nat} {zs : List Int} (h : RowsOk n K zs) (hK : K ≤ n) (hn : n ≤ 200) {d : List ByteArray} (hl : d.length = K) (hz : ∀ s ∈ d, s.size = Z) :
    applyL (overL n K zs) (givenL zs (applyL (genL n K) d n K Z)) K K Z = d := by
  have hp : ∀ x ∈ pickL (genL n K) K zs, x < 256 := pick_all' (genL_lt n K)
  have hpl : (pickL (genL n K) K zs).length = K * K := by rw [rowL_length (h.fits (genL_len n K)), h.len]
  rw [given_pick h (genL n K) (genL_len n K), ← apply_times (overL_lt h) hp, overL, (times_inv hpl hp (rank_gen h hK hn)).2, applyL_one hl hz]
/-- Of any K pieces all are rebuilt. -/
theorem rebuilt {n K Z : Nat} {bs : List Bool} (hc : cntT bs n = K) (hK : K ≤ n) (hn : n ≤ 200) {d : List ByteArray} (hl : d.length = K) (hz : ∀ s ∈ d, s.size = Z) :
    rebE n K bs = 0 ∧ rebL n K Z bs (applyL (genL n K) d n K Z) = applyL (genL n K) d n K Z := by
  have hh : (haveN bs K n).length = K := by rw [haveN_cnt, hc]; omega
  refine ⟨by rw [rebE, if_neg (by omega)], ?_⟩
  rw [rebL_yes hh, recover (haveN_ok hh) hK hn hl hz]
/-- Which texts are unlike. -/
def unlN (x y : List ByteArray) : Nat → List Int
  | 0 => []
  | i + 1 => if x.getD i ByteArray.empty = y.getD i ByteArray.empty then unlN x y i else unlN x y i ++ [(i : Int)]
def agreeL (x y : List ByteArray) (n : Nat) : List Bool := (List.range n).map fun i => decide (x.getD i ByteArray.empty = y.getD i ByteArray.empty)
theorem agreeL_at {x y : List ByteArray} {n i : Nat} (h : i < n) : (agreeL x y n).getD i false = decide (x.getD i ByteArray.empty = y.getD i ByteArray.empty) := by
  unfold agreeL
  rw [List.getD_eq_getElem?_getD, List.getElem?_map, List.getElem?_range h]
  rfl
theorem unl_cnt (x y : List ByteArray) (n : Nat) : ∀ i, i ≤ n → (unlN x y i).length + cntT (agreeL x y n) i = i
  | 0, _ => by simp [unlN, cntT]
  | i + 1, h => by
    have ih := unl_cnt x y n i (by omega)
    rw [unlN, cntT, agreeL_at (by omega)]
    by_cases e : x.getD i ByteArray.empty = y.getD i ByteArray.empty
    · rw [if_pos e, if_pos (decide_eq_true e)]; omega
    · rw [if_neg e, if_neg (by rw [decide_eq_true_eq]; exact e), List.length_append]; simp; omega
/-- Two unlike data's pieces are unlike in more than M places. -/
theorem unlike_many {n K M Z : Nat} (hnk : n = K + M) (hn : n ≤ 200) {d d' : List ByteArray} (hl : d.length = K) (hl' : d'.length = K) (hz : ∀ s ∈ d, s.size = Z) (hz' : ∀ s ∈ d', s.size = Z) (hne : d ≠ d') :
    M < (unlN (applyL (genL n K) d n K Z) (applyL (genL n K) d' n K Z) n).length := by
  have hc := unl_cnt (applyL (genL n K) d n K Z) (applyL (genL n K) d' n K Z) n n (Nat.le_refl n)
  generalize hx : applyL (genL n K) d n K Z = x at *
  generalize hy : applyL (genL n K) d' n K Z = y at *
  refine Nat.lt_of_not_le (fun hle => hne ?_)
  have hh : (haveN (agreeL x y n) K n).length = K := by rw [haveN_cnt]; omega
  have hg : givenL (haveN (agreeL x y n) K n) x = givenL (haveN (agreeL x y n) K n) y := by
    refine List.map_congr_left (fun z hz => ?_)
    have h1 := haveN_there n z hz
    have h2 := haveN_lt _ K n z hz
    rw [agreeL_at (by omega)] at h1
    exact of_decide_eq_true h1
  have r1 := recover (haveN_ok hh) (by omega) hn hl hz
  have r2 := recover (haveN_ok hh) (by omega) hn hl' hz'
  rw [hx] at r1
  rw [hy] at r2
  rw [← r1, ← r2, hg]
end Go.Proofs.Ytijcmdcjjcemfaa

/- Which pieces are near to texts, plainly: the sets that are tried, in their order; what is found of them; the page's own way finds the same. -/

namespace Go.Proofs.Ytijcmdcjjcemfaa
set_option linter.unusedVariables false
set_option linter.unusedSimpArgs false

/-- Each choice of so many of so many, as choose goes through them. -/
def chooseL : Nat → Nat → List (List Bool)
  | r, 0 => [List.replicate r false]
  | 0, _ + 1 => []
  | r + 1, m + 1 => (chooseL r m).map (true :: ·) ++ (chooseL r (m + 1)).map (false :: ·)
theorem choose_none (r : Nat) : chooseL r 0 = [List.replicate r false] := by cases r <;> rfl
theorem choose_len : ∀ r m, ∀ t ∈ chooseL r m, t.length = r
  | r, 0, t, h => by rw [choose_none, List.mem_singleton] at h; subst h; simp
  | 0, m + 1, t, h => by simp [chooseL] at h
  | r + 1, m + 1, t, h => by
    rw [chooseL, List.mem_append, List.mem_map, List.mem_map] at h
    rcases h with ⟨t', h, rfl⟩ | ⟨t', h, rfl⟩
    · rw [List.length_cons, choose_len r m t' h]
    · rw [List.length_cons, choose_len r (m + 1) t' h]
theorem choose_count : ∀ r m, ∀ t ∈ chooseL r m, t.count true = m
  | r, 0, t, h => by rw [choose_none, List.mem_singleton] at h; subst h; rw [List.count_replicate]; rfl
  | 0, m + 1, t, h => by simp [chooseL] at h
  | r + 1, m + 1, t, h => by
    rw [chooseL, List.mem_append, List.mem_map, List.mem_map] at h
    rcases h with ⟨t', h, rfl⟩ | ⟨t', h, rfl⟩
    · rw [List.count_cons_self, choose_count r m t' h]
    · rw [List.count_cons_of_ne (by simp), choose_count r (m + 1) t' h]
theorem getD_cons_all {t u : List Bool} {b c : Bool} (h0 : b = true → c = true) (h : ∀ i, t.getD i false = true → u.getD i false = true) : ∀ i, (b :: t).getD i false = true → (c :: u).getD i false = true
  | 0, x => h0 x
  | i + 1, x => h i x
/-- Whatever set of no more lies within one of them. -/
theorem choose_over : ∀ (u : List Bool) (m : Nat), u.count true ≤ m → m ≤ u.length → ∃ t ∈ chooseL u.length m, ∀ i, u.getD i false = true → t.getD i false = true
  | u, 0, h, _ => by
    refine ⟨_, by rw [choose_none]; exact List.mem_singleton.2 rfl, fun i hi => ?_⟩
    have hu : ∀ b ∈ u, b = true → False := fun b hb e => by
      subst e
      have := List.count_pos_iff.2 hb
      omega
    rw [List.getD_eq_getElem?_getD] at hi
    cases hg : u[i]? with
    | none => rw [hg] at hi; cases hi
    | some b => rw [hg] at hi; exact (hu b (List.mem_of_getElem? hg) hi).elim
  | [], m + 1, _, h => by simp at h
  | true :: u, m + 1, h, hl => by
    rw [List.count_cons_self] at h
    rw [List.length_cons] at hl
    obtain ⟨t, ht, hs⟩ := choose_over u m (by omega) (by omega)
    exact ⟨true :: t, by rw [List.length_cons, chooseL]; exact List.mem_append.2 (.inl (List.mem_map.2 ⟨t, ht, rfl⟩)), getD_cons_all (fun x => x) hs⟩
  | false :: u, m + 1, h, hl => by
    rw [List.count_cons_of_ne (by simp)] at h
    rw [List.length_cons] at hl
    by_cases hm : u.count true ≤ m
    · obtain ⟨t, ht, hs⟩ := choose_over u m hm (by omega)
      exact ⟨true :: t, by rw [List.length_cons, chooseL]; exact List.mem_append.2 (.inl (List.mem_map.2 ⟨t, ht, rfl⟩)), getD_cons_all (fun x => rfl) hs⟩
    · have hle := List.count_le_length (a := true) (l := u)
      obtain ⟨t, ht, hs⟩ := choose_over u (m + 1) h (by omega)
      exact ⟨false :: t, by rw [List.length_cons, chooseL]; exact List.mem_append.2 (.inr (List.mem_map.2 ⟨t, ht, rfl⟩)), getD_cons_all (fun x => x) hs⟩
/-- Whatever set of no less holds one of them. -/
theorem choose_under : ∀ (u : List Bool) (m : Nat), m ≤ u.count true → ∃ t ∈ chooseL u.length m, ∀ i, t.getD i false = true → u.getD i false = true
  | u, 0, _ => by
    refine ⟨_, by rw [choose_none]; exact List.mem_singleton.2 rfl, fun i hi => ?_⟩
    rw [List.getD_eq_getElem?_getD] at hi
    cases hg : (List.replicate u.length false)[i]? with
    | none => rw [hg] at hi; cases hi
    | some b => rw [hg] at hi; have := List.eq_of_mem_replicate (List.mem_of_getElem? hg); subst this; cases hi
  | [], m + 1, h => by simp at h
  | true :: u, m + 1, h => by
    rw [List.count_cons_self] at h
    obtain ⟨t, ht, hs⟩ := choose_under u m (by omega)
    exact ⟨true :: t, by rw [List.length_cons, chooseL]; exact List.mem_append.2 (.inl (List.mem_map.2 ⟨t, ht, rfl⟩)), getD_cons_all (fun x => x) hs⟩
  | false :: u, m + 1, h => by
    rw [List.count_cons_of_ne (by simp)] at h
    obtain ⟨t, ht, hs⟩ := choose_under u (m + 1) h
    exact ⟨false :: t, by rw [List.length_cons, chooseL]; exact List.mem_append.2 (.inr (List.mem_map.2 ⟨t, ht, rfl⟩)), getD_cons_all (fun x => x) hs⟩

theorem cntT_take (bs : List Bool) : ∀ i, i ≤ bs.length → cntT bs i = (bs.take i).count true
  | 0, _ => by simp [cntT]
  | i + 1, h => by
    rw [cntT, cntT_take bs i (by omega), List.take_add_one, List.count_append, List.getD_eq_getElem?_getD, List.getElem?_eq_getElem (by omega)]
    cases hb : bs[i] <;> simp
theorem cntT_all (bs : List Bool) : cntT bs bs.length = bs.count true := by rw [cntT_take bs _ (Nat.le_refl _), List.take_length]
theorem count_not : ∀ bs : List Bool, (bs.map not).count true + bs.count true = bs.length
  | [] => rfl
  | true :: bs => by have := count_not bs; simp; omega
  | false :: bs => by have := count_not bs; simp; omega

/-- Texts that are pieces. -/
def IsCode (n K Z : Nat) (c : List ByteArray) : Prop := ∃ d : List ByteArray, d.length = K ∧ (∀ s ∈ d, s.size = Z) ∧ c = applyL (genL n K) d n K Z
theorem reb_code {n K Z : Nat} {bs : List Bool} {l : List ByteArray} (h : (haveN bs K n).length = K) : IsCode n K Z (rebL n K Z bs l) :=
  ⟨_, applyL_length _ _ _ _ _, applyL_sizes, rebL_yes h⟩
theorem code_len {n K Z : Nat} {c : List ByteArray} (h : IsCode n K Z c) : c.length = n := by obtain ⟨d, _, _, rfl⟩ := h; exact applyL_length _ _ _ _ _
theorem code_size {n K Z : Nat} {c : List ByteArray} (h : IsCode n K Z c) : ∀ s ∈ c, s.size = Z := by obtain ⟨d, _, _, rfl⟩ := h; exact applyL_sizes
theorem reb_is {n K Z : Nat} {bs : List Bool} {l c : List ByteArray} (h : (haveN bs K n).length = K) (hK : K ≤ n) (hn : n ≤ 200) (hc : IsCode n K Z c)
    (ha : ∀ i, i < n → bs.getD i false = true → c.getD i ByteArray.empty = l.getD i ByteArray.empty) : rebL n K Z bs l = c := by
  obtain ⟨d, hl, hz, rfl⟩ := hc
  have hg : givenL (haveN bs K n) l = givenL (haveN bs K n) (applyL (genL n K) d n K Z) := by
    refine List.map_congr_left (fun z hz => ?_)
    have h1 := haveN_there n z hz
    have h2 := haveN_lt _ K n z hz
    exact (ha _ (by omega) h1).symm
  rw [rebL_yes h, hg, recover (haveN_ok h) hK hn hl hz]
theorem unlN_comm (x y : List ByteArray) : ∀ i, unlN x y i = unlN y x i
  | 0 => rfl
  | i + 1 => by
    rw [unlN, unlN, unlN_comm x y i]
    by_cases e : x.getD i ByteArray.empty = y.getD i ByteArray.empty
    · rw [if_pos e, if_pos e.symm]
    · rw [if_neg e, if_neg (fun h => e h.symm)]
theorem unlN_self (x : List ByteArray) : ∀ i, unlN x x i = []
  | 0 => rfl
  | i + 1 => by rw [unlN, if_pos rfl, unlN_self x i]
theorem unlN_three (x y l : List ByteArray) : ∀ i, (unlN x y i).length ≤ (unlN x l i).length + (unlN y l i).length
  | 0 => by simp [unlN]
  | i + 1 => by
    have ih := unlN_three x y l i
    simp only [unlN]
    by_cases e : x.getD i ByteArray.empty = y.getD i ByteArray.empty
    · rw [if_pos e]
      split <;> split <;> (try simp only [List.length_append, List.length_singleton]) <;> omega
    · rw [if_neg e, List.length_append]
      by_cases e1 : x.getD i ByteArray.empty = l.getD i ByteArray.empty
      · have e2 : y.getD i ByteArray.empty ≠ l.getD i ByteArray.empty := fun h => e (e1.trans h.symm)
        rw [if_pos e1, if_neg e2, List.length_append]
        simp only [List.length_singleton]
        omega
      · rw [if_neg e1, List.length_append]
        split <;> (try simp only [List.length_append]) <;> simp only [List.length_singleton] <;> omega
theorem code_same {n K M Z : Nat} (hnk : n = K + M) (hn : n ≤ 200) {c c' l : List ByteArray} (h : IsCode n K Z c) (h' : IsCode n K Z c') (hu : (unlN c l n).length ≤ M / 2) (hu' : (unlN c' l n).length ≤ M / 2) : c = c' := by
  obtain ⟨d, hl, hz, rfl⟩ := h
  obtain ⟨d', hl', hz', rfl⟩ := h'
  by_cases e : d = d'
  · rw [e]
  · have h1 := unlike_many hnk hn hl hl' hz hz' e
    have h2 := unlN_three (applyL (genL n K) d n K Z) (applyL (genL n K) d' n K Z) l n
    omega

/-- What is rebuilt of these texts, if it is near enough. -/
def nearR (n K M Z : Nat) (l : List ByteArray) (T : List Bool) : Option (List ByteArray) := if (unlN (rebL n K Z T l) l n).length ≤ M / 2 then some (rebL n K Z T l) else none
/-- What spot finds: some texts out, the first of the rest. -/
def foundL (n K M Z : Nat) (l : List ByteArray) : Option (List ByteArray) := (chooseL n (M / 2)).findSome? (fun out => nearR n K M Z l (out.map not))
/-- What the page finds: from each K places. -/
def tryL (n K M Z : Nat) (l : List ByteArray) : Option (List ByteArray) := (chooseL n K).findSome? (nearR n K M Z l)

theorem findSome_uniq {α β : Type} {f : α → Option β} {c : β} : ∀ {F : List α}, (∃ t ∈ F, f t = some c) → (∀ t ∈ F, ∀ x, f t = some x → x = c) → F.findSome? f = some c
  | [], ⟨t, ht, _⟩, _ => by cases ht
  | a :: F, ⟨t, ht, hf⟩, h2 => by
    rw [List.findSome?_cons]
    cases ha : f a with
    | some x => rw [h2 a (List.mem_cons_self ..) x ha]
    | none =>
      rcases List.mem_cons.1 ht with rfl | ht
      · rw [ha] at hf; cases hf
      · exact findSome_uniq ⟨t, ht, hf⟩ (fun t ht => h2 t (List.mem_cons_of_mem _ ht))
theorem there_full {n K M : Nat} (hnk : n = K + M) {out : List Bool} (h : out ∈ chooseL n (M / 2)) : (haveN (out.map not) K n).length = K := by
  have h1 := choose_len _ _ _ h
  have h2 := choose_count _ _ _ h
  have h3 := count_not out
  have h4 : cntT (out.map not) n = (out.map not).count true := by rw [← cntT_all, List.length_map, h1]
  rw [haveN_cnt, h4]
  omega
theorem chosen_full {n K : Nat} {t : List Bool} (h : t ∈ chooseL n K) : (haveN t K n).length = K := by
  have h1 := choose_len _ _ _ h
  have h2 := choose_count _ _ _ h
  have h4 : cntT t n = t.count true := by rw [← cntT_all, h1]
  rw [haveN_cnt, h4, h2]
  omega
theorem nearR_some {n K M Z : Nat} {l : List ByteArray} {T : List Bool} {x : List ByteArray} (h : nearR n K M Z l T = some x) : x = rebL n K Z T l ∧ (unlN x l n).length ≤ M / 2 := by
  unfold nearR at h
  split at h
  · rename_i hu; cases h; exact ⟨rfl, hu⟩
  · cases h
theorem agree_cnt (c l : List ByteArray) (n : Nat) : (unlN c l n).length + (agreeL c l n).count true = n := by
  have h1 := unl_cnt c l n n (Nat.le_refl n)
  have h2 : (agreeL c l n).length = n := by simp [agreeL]
  have h3 := cntT_all (agreeL c l n)
  rw [h2] at h3
  rw [← h3]; exact h1
/-- Are there pieces that are near, spot finds them. -/
theorem found_yes {n K M Z : Nat} (hnk : n = K + M) (hn : n ≤ 200) {c l : List ByteArray} (hc : IsCode n K Z c) (hu : (unlN c l n).length ≤ M / 2) : foundL n K M Z l = some c := by
  refine findSome_uniq ?_ (fun t ht x hx => ?_)
  · have h1 := agree_cnt c l n
    have h2 : (agreeL c l n).length = n := by simp [agreeL]
    have h3 := count_not (agreeL c l n)
    obtain ⟨t, ht, hs⟩ := choose_over ((agreeL c l n).map not) (M / 2) (by omega) (by rw [List.length_map]; omega)
    rw [List.length_map, h2] at ht
    have h4 := choose_len _ _ _ ht
    refine ⟨t, ht, ?_⟩
    have hr : rebL n K Z (t.map not) l = c := reb_is (there_full hnk ht) (by omega) hn hc (fun i hi hb => by
      by_cases e : c.getD i ByteArray.empty = l.getD i ByteArray.empty
      · exact e
      · exfalso
        have e1 := agreeL_at (x := c) (y := l) hi
        rw [decide_eq_false e] at e1
        have e2 : ((agreeL c l n).map not).getD i false = true := by
          rw [List.getD_eq_getElem?_getD, List.getElem?_map]
          rw [List.getD_eq_getElem?_getD, List.getElem?_eq_getElem (by omega)] at e1
          rw [List.getElem?_eq_getElem (by omega)]
          simp at e1 ⊢; exact e1
        have e3 := hs i e2
        rw [List.getD_eq_getElem?_getD, List.getElem?_eq_getElem (by omega)] at e3
        rw [List.getD_eq_getElem?_getD, List.getElem?_map, List.getElem?_eq_getElem (by omega)] at hb
        simp at e3 hb
        rw [e3] at hb; cases hb)
    rw [nearR, hr, if_pos hu]
  · obtain ⟨rfl, hux⟩ := nearR_some hx
    exact code_same hnk hn (reb_code (there_full hnk ht)) hc hux hu
theorem try_yes {n K M Z : Nat} (hnk : n = K + M) (hn : n ≤ 200) {c l : List ByteArray} (hc : IsCode n K Z c) (hu : (unlN c l n).length ≤ M / 2) : tryL n K M Z l = some c := by
  refine findSome_uniq ?_ (fun t ht x hx => ?_)
  · have h1 := agree_cnt c l n
    have h2 : (agreeL c l n).length = n := by simp [agreeL]
    obtain ⟨t, ht, hs⟩ := choose_under (agreeL c l n) K (by omega)
    rw [h2] at ht
    refine ⟨t, ht, ?_⟩
    have hr : rebL n K Z t l = c := reb_is (chosen_full ht) (by omega) hn hc (fun i hi hb => by
      have e1 := hs i hb
      rw [agreeL_at hi] at e1
      exact of_decide_eq_true e1)
    rw [nearR, hr, if_pos hu]
  · obtain ⟨rfl, hux⟩ := nearR_some hx
    exact code_same hnk hn (reb_code (chosen_full ht)) hc hux hu
theorem found_code {n K M Z : Nat} (hnk : n = K + M) {l x : List ByteArray} (h : foundL n K M Z l = some x) : IsCode n K Z x ∧ (unlN x l n).length ≤ M / 2 := by
  obtain ⟨t, ht, hx⟩ := List.exists_of_findSome?_eq_some h
  obtain ⟨rfl, hux⟩ := nearR_some hx
  exact ⟨reb_code (there_full hnk ht), hux⟩
theorem try_code {n K M Z : Nat} (hnk : n = K + M) {l x : List ByteArray} (h : tryL n K M Z l = some x) : IsCode n K Z x ∧ (unlN x l n).length ≤ M / 2 := by
  obtain ⟨t, ht, hx⟩ := List.exists_of_findSome?_eq_some h
  obtain ⟨rfl, hux⟩ := nearR_some hx
  exact ⟨reb_code (chosen_full ht), hux⟩
/-- The page finds what spot finds. -/
theorem try_found {n K M Z : Nat} (hnk : n = K + M) (hn : n ≤ 200) (l : List ByteArray) : tryL n K M Z l = foundL n K M Z l := by
  cases hf : foundL n K M Z l with
  | some x => obtain ⟨h1, h2⟩ := found_code hnk hf; exact try_yes hnk hn h1 h2
  | none =>
    cases ht : tryL n K M Z l with
    | none => rfl
    | some x => obtain ⟨h1, h2⟩ := try_code hnk ht; rw [found_yes hnk hn h1 h2] at hf; cases hf
end Go.Proofs.Ytijcmdcjjcemfaa

/- Whether two lists of texts are one: siloref0.EqStrings, slices.Equal; code.Verify. -/

namespace Go.Proofs.Ytijcmdcjjcemfaa
open Go.ChangeShapes Go.WideShapes Go.ChangeAt Go.RowKit Go.Joins
set_option linter.unusedVariables false
set_option linter.unusedSimpArgs false

set_option maxRecDepth 100000 in
set_option maxHeartbeats 2000000 in
theorem eqStrs6_dec (va vb : Value) (a b : List ByteArray) (w : World) (ha : Strs6 w va a) (hb : Strs6 w vb b) (hm : a.length ≤ 9000000000000000000) (hm' : b.length ≤ 9000000000000000000) :
    Calls Try.prog 15 #[va, vb] w fun e w' => e = .returned (.bool (decide (a = b))) ∧ Below w.heap.size w w' := by
  have HA := Lib.hid ha
  have HB := Lib.hid hb
  obtain ⟨Aa, ka, rfl⟩ := ha.shape
  obtain ⟨Ab, kb, rfl⟩ := hb.shape
  clear ha hb
  by_cases hlen : b.length = a.length
  · rw [hlen]
    have HL := Lib.hid hlen
    clear hlen hm'
    have hd : ((a.length : Int) == (a.length : Int)) = true := by simp
    go_enter Try.func15, Try.ntmps15
    go_wp2_with fail
    go_loopw [5] (fun i wr => ∃ k : Nat, i = .int .i64 k ∧ k ≤ a.length ∧ Hid (a.take k = b.take k) ∧ Below w.heap.size w wr) (fun i _ => a.length - (intOf i).toNat)
    case atStart => exact ⟨0, rfl, by omega, rfl, Below.refl _ _⟩
    case round =>
      obtain ⟨k, rfl, hk, HK, hwr⟩ := hrel
      by_cases hlt : k < a.length
      · have hltb : k < b.length := by rw [HL.out]; exact hlt
        obtain ⟨ba, oa, rfl, _, a0⟩ := (HA.out.below hwr).at_ hlt
        obtain ⟨bb, ob, rfl, _, b0⟩ := (HB.out.below hwr).at_ hltb
        have HT : Hid (a[k]'hlt = b[k]'hltb → a.take (k + 1) = b.take (k + 1)) := fun h => by
          rw [List.take_succ_eq_append_getElem hlt, List.take_succ_eq_append_getElem hltb, HK.out, h]
        have HN : Hid (a[k]'hlt ≠ b[k]'hltb → decide (a = b) = false) := fun h => by
          refine decide_eq_false (fun e => h ?_)
          subst e
          rfl
        have j0 : (0 : Int) ≤ (k : Int) := by omega
        have j1 : (k : Int) < (a.length : Int) := by omega
        generalize a[k]'hlt = s at *
        generalize b[k]'hltb = t at *
        clear hltb
        by_cases hst : s = t
        · have HT1 := Lib.hid (HT.out hst)
          subst hst
          go_wp2_with fail
          go_quiet (fail)
          all_goals
            go_wp2_with fail
            go_roundw
            case rel => exact ⟨k + 1, by go_num, by omega, HT1, below_drewN hwr _⟩
            case measure => simp [intOf]; omega
        · have HF := Lib.hid (HN.out hst)
          have hs1 : (s.toList == t.toList) = false := by rw [beq_eq_false_iff_ne, ByteArray.toList_eq, ByteArray.toList_eq]; exact fun e => hst (ByteArray.ext (Array.toList_inj.1 e))
          clear HT HN
          go_wp2_with fail
          go_quiet (fail)
          all_goals go_wp2_with fail
          all_goals
            go_ret
            exact ⟨by rw [HF.out]; first | rfl | simp_all, below_drewN hwr _⟩
      · have hke : k = a.length := by omega
        have HF : Hid (decide (a = b) = true) := by
          have h := HK.out
          rw [hke, List.take_length, ← HL.out, List.take_length] at h
          exact decide_eq_true h
        clear hke
        go_wp2_with fail
        go_ret
        exact ⟨by rw [HF.out]; first | rfl | simp_all, hwr⟩
  · have hd : ((a.length : Int) == (b.length : Int)) = false := by simp; omega
    have HF : Hid (decide (a = b) = false) := decide_eq_false (fun e => hlen (by rw [e]))
    clear hlen
    go_enter Try.func15, Try.ntmps15
    go_wp2_with fail
    go_ret
    exact ⟨by rw [HF.out]; first | rfl | simp_all, Below.refl _ _⟩

end Go.Proofs.Ytijcmdcjjcemfaa

/- code.Verify, walked. -/

namespace Go.Proofs.Ytijcmdcjjcemfaa
open Go.ChangeShapes Go.WideShapes Go.ChangeAt Go.RowKit Go.Joins
set_option linter.unusedVariables false
set_option linter.unusedSimpArgs false

/-- Whether texts are pieces. -/
def verB (b : Bool) (k m z : Int) (L : List ByteArray) : Bool := b && decide (encL k m z (L.take k.toNat) = L)

/-- Room for a slice of it. -/
def RoomS (v : Value) (L : List ByteArray) : Prop := ∃ A c, v = .slice A L.length c ∧ L.length ≤ c ∧ c ≤ 9223372036854775807

end Go.Proofs.Ytijcmdcjjcemfaa

/- Rows of bools and texts that are written in place; CopyBools. -/

namespace Go.Proofs.Ytijcmdcjjcemfaa
open Go.ChangeShapes Go.WideShapes Go.ChangeAt Go.RowKit Go.Joins
set_option linter.unusedVariables false
set_option linter.unusedSimpArgs false

theorem boolsIn_own {w : World} {B : Nat} {e : TypeId} {v : Value} {T : List Bool} (h : w.ownsRow B e 1 v T.length (T.map Value.bool)) (hl : T.length ≤ 9223372036854775807) : BoolsIn w v T := by
  obtain ⟨hlen, A, c, rfl, hr⟩ := RowIs.of_own h
  refine ⟨A, c, rfl, hl, fun i hi => ?_⟩
  obtain ⟨b, o, rfl, hbl, hcell⟩ := hr (by omega)
  refine ⟨b, o, rfl, hbl, hcell i _ ?_⟩
  simp [List.getD, hi]
theorem roomS_own {w : World} {B : Nat} {e : TypeId} {v : Value} {L : List ByteArray} {xs : List Value} (h : w.ownsRow B e 1 v L.length xs) : RoomS v L := by
  rcases h.2 with ⟨rfl, h0⟩ | ⟨g, cap, cur, rfl, hb, hg, h1, h2, _⟩
  · exact ⟨none, 0, by rw [h0], by omega, by omega⟩
  · exact ⟨_, cap, rfl, h1, h2⟩
theorem infoBool : (Try.prog.info? 4).map (fun i => (i.zero, i.size, i.bytes)) = some (some (.bool false), 1, 1) := by kernel_rfl
theorem hmkT {n : Nat} (hn : n ≤ 100000) : ∀ w, (Instr.makeSlice 24 (.int .i64 (n : Int)) (.int .i64 (n : Int))).run Try.prog w = .ok (.slice (some ⟨w.heap.size, 0, none⟩) n n) (w.alloc (.cells (Array.replicate n (.bool false)) 4)) := by
  intro w
  obtain ⟨i, h1, h2, h3, h4⟩ := info_parts infoBool
  have hr := run_make (P := Try.prog) w 24 4 i _ Try.underlying24 h1 h2 .i64 .i64 (n : Int) (n : Int) (by omega) (by omega) (by rw [h4]; omega) (by omega)
  rw [hr]
  have e : madeCells (Value.bool false).cells ((n : Int).toNat * i.size) = Array.replicate n (.bool false) := by
    rw [h3, Int.toNat_natCast, Nat.mul_one]
    apply Array.ext
    · simp [madeCells]
    · intro j h1 h2
      simp [madeCells, Value.cells, Nat.mod_one]
  rw [e, Int.toNat_natCast]
theorem ListsIn.at2 {w : World} {A : Option Addr} {c : Nat} {LL : List (Value × List ByteArray)} (h : ListsIn w (.slice A LL.length c) LL) {k : Nat} (hk : k < LL.length) :
    ∃ b o v l, (v, l) ∈ LL ∧ A = some ⟨b, o, none⟩ ∧ w.cell? ⟨b, o + k, none⟩ = some v ∧ Strs6 w v l ∧ l.length ≤ 6000 := by
  obtain ⟨b, o, c', e, hlt, hc⟩ := RowIs.at_ h.1 hk
  cases e
  obtain ⟨u, h1, h2⟩ := hc 0 (by omega)
  simp [hk] at h1
  rw [Nat.mul_one, Nat.add_zero] at h2
  have hm := h.2 (LL[k]'hk) (List.getElem_mem hk)
  exact ⟨b, o, (LL[k]'hk).1, (LL[k]'hk).2, List.getElem_mem hk, rfl, by rw [h2, ← h1], hm.1, hm.2⟩

end Go.Proofs.Ytijcmdcjjcemfaa
