/- Any K pieces tell all; two unlike data's pieces are unlike in more than M places (plain). -/
import Derived.Test.YtdagnmhioellhaaPkA27
import Derived.Test.YtdagnmhioellhaaPkA26
import Derived.Test.YtdagnmhioellhaaPkA30
namespace Go.Proofs.Ytdagnmhioellhaa
set_option linter.unusedVariables false
set_option linter.unusedSimpArgs false

/-- How many of the first so many are there. -/
def cntT (bs : List Bool) : Nat → Nat
  | 0 => 0
  | i + 1 => cntT bs i + if bs.getD i false = true then 1 else 0
theorem haveN_cnt (bs : List Bool) (K : Nat) : ∀ i, (haveN bs K i).length = min K (cntT bs i)
  | 0 => by simp [haveN, cntT]
  | i + 1 => by
    have ih := haveN_cnt bs K i
    rw [haveN, cntT]
    by_cases h : bs.getD i false = true
    · by_cases hk : (haveN bs K i).length < K
      · rw [if_pos ⟨h, hk⟩, if_pos h, List.length_append]
        simp
        omega
      · rw [if_neg (fun x => hk x.2), if_pos h]
        omega
    · rw [if_neg (fun x => h x.1), if_neg h]
      omega
theorem rowLane_congr {ms ms' : List Nat} (l : List ByteArray) (ca n i i' : Nat) : ∀ k, (∀ j, j < k → ms.getD (i * ca + j) 0 = ms'.getD (i' * ca + j) 0) → rowLane ms l ca n i k = rowLane ms' l ca n i' k
  | 0, _ => by rw [rowLane_zero, rowLane_zero]
  | k + 1, h => by
    rw [rowLane_succ, rowLane_succ, rowLane_congr l ca n i i' k (fun j hj => h j (by omega)), h k (by omega)]
theorem applyL_at {ms : List Nat} {l : List ByteArray} {ra ca n i : Nat} (h : i < ra) (h' : i < (applyL ms l ra ca n).length) : (applyL ms l ra ca n)[i] = rowLane ms l ca n i ca := by simp [applyL]
theorem given_pick {n K Z : Nat} {zs : List Int} (h : RowsOk n K zs) (g : List Nat) (hg : g.length = n * K) (d : List ByteArray) :
    givenL zs (applyL g d n K Z) = applyL (pickL g K zs) d K K Z := by
  apply List.ext_getElem
  · rw [givenL_len, applyL_length, h.len]
  · intro i h1 h2
    rw [givenL_len, h.len] at h1
    have hz := h.at_ h1
    have hi : i < zs.length := by rw [h.len]; exact h1
    rw [applyL_at h1]
    have e : (givenL zs (applyL g d n K Z))[i]'(by rw [givenL_len]; exact hi) = (applyL g d n K Z).getD (zs.getD i 0).toNat ByteArray.empty := by
      simp [givenL, List.getD, hi]
    rw [e, applyL_get hz]
    refine rowLane_congr d K Z _ _ K (fun j hj => ?_)
    have := pick_ent (h.fits hg) hi hj
    rw [ent, ent] at this
    exact this.symm
theorem applyL_one {K Z : Nat} {d : List ByteArray} (hl : d.length = K) (hz : ∀ s ∈ d, s.size = Z) : applyL (oneL K K) d K K Z = d := by
  apply List.ext_getElem
  · rw [applyL_length, hl]
  · intro i h1 h2
    rw [applyL_length] at h1
    rw [applyL_at h1]
    have hs : (d[i]).size = Z := hz _ (List.getElem_mem h2)
    apply str_extM
    · rw [rowLane_size, hs]
    · intro p hp
      rw [rowLane_size] at hp
      have hb : B8 (fun k => byN (d.getD k ByteArray.empty) p) := fun k => byN_lt _ _
      rw [rowLane_dot _ _ _ _ _ hp, dot_congr (u' := fun k => byN (d.getD k ByteArray.empty) p) (v' := fun k => if k = i then 1 else 0) (fun _ _ => rfl) (fun k hk => ?_), dot_one_right hb h1]
      · rw [← List.getElem_eq_getD (h := h2)]
      · have := oneL_one h1 hk
        rw [ent] at this
        rw [this]
        by_cases e : i = k
        · rw [if_pos e, if_pos e.symm]
        · rw [if_neg e, if_neg (fun x => e x.symm)]
/-- Any K pieces tell the data. -/
theorem recover {n K Z : Nat} {zs : List Int} (h : RowsOk n K zs) (hK : K ≤ n) (hn : n ≤ 200) {d : List ByteArray} (hl : d.length = K) (hz : ∀ s ∈ d, s.size = Z) :
    applyL (overL n K zs) (givenL zs (applyL (genL n K) d n K Z)) K K Z = d := by
  have hp : ∀ x ∈ pickL (genL n K) K zs, x < 256 := pick_all' (genL_lt n K)
  have hpl : (pickL (genL n K) K zs).length = K * K := by rw [rowL_length (h.fits (genL_len n K)), h.len]
  rw [given_pick h (genL n K) (genL_len n K), ← apply_times (overL_lt h) hp, overL, (times_inv hpl hp (rank_gen h hK hn)).2, applyL_one hl hz]
/-- Of any K pieces all are rebuilt. -/
theorem rebuilt {n K Z : Nat} {bs : List Bool} (hc : cntT bs n = K) (hK : K ≤ n) (hn : n ≤ 200) {d : List ByteArray} (hl : d.length = K) (hz : ∀ s ∈ d, s.size = Z) :
    rebE n K bs = 0 ∧ rebL n K Z bs (applyL (genL n K) d n K Z) = applyL (genL n K) d n K Z := by
  have hh : (haveN bs K n).length = K := by rw [haveN_cnt, hc]; omega
  refine ⟨by rw [rebE, if_neg (by omega)], ?_⟩
  rw [rebL_yes hh, recover (haveN_ok hh) hK hn hl hz]
/-- Which texts are unlike. -/
def unlN (x y : List ByteArray) : Nat → List Int
  | 0 => []
  | i + 1 => if x.getD i ByteArray.empty = y.getD i ByteArray.empty then unlN x y i else unlN x y i ++ [(i : Int)]
def agreeL (x y : List ByteArray) (n : Nat) : List Bool := (List.range n).map fun i => decide (x.getD i ByteArray.empty = y.getD i ByteArray.empty)
theorem agreeL_at {x y : List ByteArray} {n i : Nat} (h : i < n) : (agreeL x y n).getD i false = decide (x.getD i ByteArray.empty = y.getD i ByteArray.empty) := by
  unfold agreeL
  rw [List.getD_eq_getElem?_getD, List.getElem?_map, List.getElem?_range h]
  rfl
theorem unl_cnt (x y : List ByteArray) (n : Nat) : ∀ i, i ≤ n → (unlN x y i).length + cntT (agreeL x y n) i = i
  | 0, _ => by simp [unlN, cntT]
  | i + 1, h => by
    have ih := unl_cnt x y n i (by omega)
    rw [unlN, cntT, agreeL_at (by omega)]
    by_cases e : x.getD i ByteArray.empty = y.getD i ByteArray.empty
    · rw [if_pos e, if_pos (decide_eq_true e)]; omega
    · rw [if_neg e, if_neg (by rw [decide_eq_true_eq]; exact e), List.length_append]; simp; omega
/-- Two unlike data's pieces are unlike in more than M places. -/
theorem unlike_many {n K M Z : Nat} (hnk : n = K + M) (hn : n ≤ 200) {d d' : List ByteArray} (hl : d.length = K) (hl' : d'.length = K) (hz : ∀ s ∈ d, s.size = Z) (hz' : ∀ s ∈ d', s.size = Z) (hne : d ≠ d') :
    M < (unlN (applyL (genL n K) d n K Z) (applyL (genL n K) d' n K Z) n).length := by
  have hc := unl_cnt (applyL (genL n K) d n K Z) (applyL (genL n K) d' n K Z) n n (Nat.le_refl n)
  generalize hx : applyL (genL n K) d n K Z = x at *
  generalize hy : applyL (genL n K) d' n K Z = y at *
  refine Nat.lt_of_not_le (fun hle => hne ?_)
  have hh : (haveN (agreeL x y n) K n).length = K := by rw [haveN_cnt]; omega
  have hg : givenL (haveN (agreeL x y n) K n) x = givenL (haveN (agreeL x y n) K n) y := by
    refine List.map_congr_left (fun z hz => ?_)
    have h1 := haveN_there n z hz
    have h2 := haveN_lt _ K n z hz
    rw [agreeL_at (by omega)] at h1
    exact of_decide_eq_true h1
  have r1 := recover (haveN_ok hh) (by omega) hn hl hz
  have r2 := recover (haveN_ok hh) (by omega) hn hl' hz'
  rw [hx] at r1
  rw [hy] at r2
  rw [← r1, ← r2, hg]
end Go.Proofs.Ytdagnmhioellhaa

/- siloref4.Unlike, walked; how many are there. -/

namespace Go.Proofs.Ytdagnmhioellhaa
open Go.ChangeShapes Go.WideShapes Go.ChangeAt Go.RowKit Go.Joins
set_option linter.unusedVariables false
set_option linter.unusedSimpArgs false

theorem cntT_set {T : List Bool} {q : Nat} (b : Bool) : ∀ i, i ≤ q → cntT (T.set q b) i = cntT T i
  | 0, _ => rfl
  | i + 1, h => by
    rw [cntT, cntT, cntT_set b i (by omega)]
    have e : (T.set q b).getD i false = T.getD i false := by
      simp [List.getD, List.getElem?_set, show q ≠ i by omega]
    rw [e]
theorem cntT_next {T : List Bool} {q : Nat} (hq : q < T.length) (b : Bool) : cntT (T.set q b) (q + 1) = cntT T q + if b = true then 1 else 0 := by
  have e : (T.set q b).getD q false = b := by simp [List.getD, List.getElem?_set, hq]
  rw [cntT, cntT_set b q (Nat.le_refl q), e]
theorem cntT_le (T : List Bool) : ∀ i, cntT T i ≤ i
  | 0 => Nat.le_refl 0
  | i + 1 => by
    have := cntT_le T i
    rw [cntT]
    split <;> omega

set_option maxRecDepth 100000 in
set_option maxHeartbeats 2000000 in
theorem refUnlike_any (va vb : Value) (a b : List ByteArray) (n : Nat) (w : World) (ha : Strs6 w va a) (hb : Strs6 w vb b) (hla : a.length = n) (hlb : b.length = n) (hn : n ≤ 1000) :
    Calls Try.prog 26 #[va, vb] w fun e w' => ∃ r, e = .returned r ∧ w'.ownsRow w.heap.size 3 1 r (unlN a b n).length (i64s (unlN a b n)) ∧ Below w.heap.size w w' := by
  obtain ⟨i0, hi, hz0, hz1, hz2⟩ := info_parts infoI64
  have HA := Lib.hid ha
  have HB := Lib.hid hb
  have HLA := Lib.hid hla
  have HLB := Lib.hid hlb
  obtain ⟨Aa, ka, rfl⟩ := ha.shape
  obtain ⟨Ab, kb, rfl⟩ := hb.shape
  rw [hla, hlb]
  clear ha hb hla hlb
  go_enter Try.func26, Try.ntmps26
  go_wp2_with fail
  go_loopw [5, 6] (fun l i wr => ∃ (k : Nat) (lw : Value), lw = l ∧ i = .int .i64 k ∧ k ≤ n ∧ wr.ownsRow w.heap.size 3 1 lw (unlN a b k).length (i64s (unlN a b k)) ∧ Below w.heap.size w wr) (fun _ i _ => n - (intOf i).toNat)
  case atStart => exact ⟨0, _, rfl, rfl, by omega, World.ownsRow_nil _ _ _ _, Below.refl _ _⟩
  case round =>
    obtain ⟨k, lw, rfl, rfl, hk, hown, hwr⟩ := hrel
    by_cases hlt : k < n
    · have hd : decide ((k : Int) < (n : Int)) = true := by simp; omega
      have hlta : k < a.length := by rw [HLA.out]; exact hlt
      have hltb : k < b.length := by rw [HLB.out]; exact hlt
      obtain ⟨ba, oa, rfl, _, a0⟩ := (HA.out.below hwr).at_ hlta
      obtain ⟨bb, ob, rfl, _, b0⟩ := (HB.out.below hwr).at_ hltb
      have hga : a.getD k ByteArray.empty = a[k]'hlta := by rw [← List.getElem_eq_getD (h := hlta)]
      have hgb : b.getD k ByteArray.empty = b[k]'hltb := by rw [← List.getElem_eq_getD (h := hltb)]
      have HY : Hid (a[k]'hlta = b[k]'hltb → unlN a b (k + 1) = unlN a b k) := fun h => by rw [unlN, hga, hgb, if_pos h]
      have HN : Hid (a[k]'hlta ≠ b[k]'hltb → unlN a b (k + 1) = unlN a b k ++ [(k : Int)]) := fun h => by rw [unlN, hga, hgb, if_neg h]
      have hkl : (unlN a b k).length ≤ k := by have := unl_cnt a b n k hk; omega
      have j0 : (0 : Int) ≤ (k : Int) := by omega
      have j1 : (k : Int) < (n : Int) := by omega
      clear hga hgb
      generalize a[k]'hlta = s at *
      generalize b[k]'hltb = t at *
      clear hlta hltb
      by_cases hst : s = t
      · have HT1 := Lib.hid (HY.out hst)
        subst hst
        clear HY HN
        go_wp2_with fail
        go_quiet (fail)
        all_goals
          go_wp2_with fail
          go_roundw
          case rel => exact ⟨k + 1, _, rfl, by go_num, by omega, by rw [HT1.out]; exact hown, below_drewN hwr _⟩
          case measure => simp [intOf]; omega
      · have HT1 := Lib.hid (HN.out hst)
        have hs1 : (s.toList == t.toList) = false := by rw [beq_eq_false_iff_ne, ByteArray.toList_eq, ByteArray.toList_eq]; exact fun e => hst (ByteArray.ext (Array.toList_inj.1 e))
        clear HY HN
        go_wp2_with fail
        go_quiet (fail)
        have hown2 : (wr.drewN nq).ownsRow w.heap.size 3 1 lw (unlN a b k).length (i64s (unlN a b k)) := hown
        have hwr2 : Below w.heap.size w (wr.drewN nq) := below_drewN hwr _
        clear hown hwr a0 b0
        go_wp2_with (first | (at_builtin; refine wpList_append_own _ rfl _ _ 52 rfl w.heap.size 3 i0 (.int .i64 0) 1 8 Try.underlying52 hi hz0 hz1 hz2 rfl (by decide) _ _ _ rfl (hown2.alloc _) ⟨wr.heap.size, 0, none⟩ 1 1 [.int .i64 (k : Int)] rfl rfl ?c1 ?c2 ?c3 ?c4 ?c5 ?_) | go_in)
        case c1 => exact cell_one_new' _ _ _
        case c2 => intro u hu; simp at hu; subst hu; rfl
        case c3 => unfold maxLen; omega
        case c4 => omega
        case c5 => have h5 : w.heap.size ≤ wr.heap.size := hwr2.size; simp; omega
        all_goals
          intro v' w1 hown' hgrow _
          have hbx := append_below hwr2 hown2 hgrow
          clear hown2 hgrow hwr2
          go_wp2_with fail
          go_roundw
          case rel => exact ⟨k + 1, _, rfl, by go_num, by omega, by rw [HT1.out, List.length_append, i64s_snoc]; exact hown', hbx⟩
          case measure => simp [intOf]; omega
    · have hke : k = n := by omega
      have hd : decide ((k : Int) < (n : Int)) = false := by simp; omega
      rw [hke] at hown
      clear hke
      go_wp2_with fail
      all_goals
        go_ret
        exact ⟨_, rfl, hown, hwr⟩
end Go.Proofs.Ytdagnmhioellhaa
