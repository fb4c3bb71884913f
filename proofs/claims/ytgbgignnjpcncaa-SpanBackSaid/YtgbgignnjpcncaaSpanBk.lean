/- What the parts of a text's piece take of its stripes is just that piece: the plain law. -/
import Derived.Test.YtgbgignnjpcncaaTake
import Derived.Test.YtgbgignnjpcncaaPartsOf
namespace Go.Proofs.Ytgbgignnjpcncaa
open Go.ChangeShapes Go.WideShapes Go.ChangeAt Go.RowKit Go.Joins
set_option linter.unusedVariables false
set_option linter.unusedSimpArgs false

theorem partsOf_get {w : Nat} (hw : 0 < w) : ∀ (q : Nat) (t : ByteArray), q * w < t.size → (partsOf w t)[q]? = some (t.extract (q * w) (min t.size ((q + 1) * w))) := by
  intro q
  induction q with
  | zero => intro t h; rw [partsOf_step (by omega) hw]; simp
  | succ q ih =>
    intro t h
    rw [Nat.add_mul, Nat.one_mul] at h
    have hs : (t.extract w t.size).size = t.size - w := by rw [ByteArray.size_extract]; omega
    rw [partsOf_step (by omega) hw, show min t.size w = w by omega, List.getElem?_cons_succ, ih _ (by omega), hs, ByteArray.extract_extract]
    have e1 : w + q * w = (q + 1) * w := by rw [Nat.add_mul, Nat.one_mul]; omega
    have e2 : min (w + min (t.size - w) ((q + 1) * w)) t.size = min t.size ((q + 1 + 1) * w) := by
      rw [Nat.add_mul (q + 1) 1 w, Nat.one_mul]; omega
    rw [e1, e2]
theorem partsOf_size {w : Nat} : ∀ (t : ByteArray), ∀ s ∈ partsOf w t, s.size ≤ t.size := by
  have h : ∀ (m : Nat) (t : ByteArray), t.size ≤ m → ∀ s ∈ partsOf w t, s.size ≤ t.size := by
    intro m
    induction m with
    | zero => intro t ht s hs; rw [partsOf_end (by omega)] at hs; cases hs
    | succ m ih =>
      intro t ht s hs
      by_cases h0 : 0 < t.size ∧ 0 < w
      · rw [partsOf_step h0.1 h0.2, List.mem_cons] at hs
        rcases hs with rfl | hs
        · rw [ByteArray.size_extract]; omega
        · have e : (t.extract (min t.size w) t.size).size = t.size - min t.size w := by rw [ByteArray.size_extract]; omega
          have := ih _ (by omega) s hs
          omega
      · rw [partsOf, dif_neg h0] at hs; cases hs
  exact fun t => h _ t (Nat.le_refl _)

theorem foldl_taken (L : List ByteArray) (x : List T3) : ∀ t : ByteArray, x.foldl (fun t p => t ++ piece L p) t = t ++ taken L x := by
  induction x with
  | nil => intro t; simp [taken]
  | cons p x ih =>
    intro t
    simp only [taken, List.foldl_cons] at *
    rw [ih, ih (ByteArray.empty ++ piece L p)]
    simp [ByteArray.append_assoc]
theorem taken_cons (L : List ByteArray) (p : T3) (x : List T3) : taken L (p :: x) = piece L p ++ taken L x := by
  rw [taken, List.foldl_cons, foldl_taken]; simp

theorem extract_join (t : ByteArray) (a b c : Nat) (h1 : a ≤ b) (h2 : b ≤ c) : t.extract a b ++ t.extract b c = t.extract a c := by
  rw [ByteArray.extract_append_extract, Nat.min_eq_left (by omega), Nat.max_eq_right (by omega)]

theorem back_plain {w : Nat} (t : ByteArray) (hw : 0 < w) (e : Nat) (he : e ≤ t.size) : ∀ a, a ≤ e → allOk (partsOf w t) (spanOf w e a) = true ∧ taken (partsOf w t) (spanOf w e a) = t.extract a e := by
  have h : ∀ (m a : Nat), e - a ≤ m → a ≤ e → allOk (partsOf w t) (spanOf w e a) = true ∧ taken (partsOf w t) (spanOf w e a) = t.extract a e := by
    intro m
    induction m with
    | zero =>
      intro a ha hae
      obtain rfl : a = e := by omega
      rw [spanOf_end (by omega)]
      exact ⟨rfl, by rw [append_empty_bytes]; simp⟩
    | succ m ih =>
      intro a ha hae
      by_cases hlt : a < e
      · have hn := next_gt w e a hlt hw
        obtain ⟨i1, i2⟩ := ih (min e ((a / w + 1) * w)) (by omega) (by omega)
        have h1 := Nat.div_add_mod a w
        have h2 := Nat.mod_lt a hw
        have h3 : (a / w + 1) * w = a / w * w + w := by rw [Nat.add_mul, Nat.one_mul]
        have h4 : w * (a / w) = a / w * w := Nat.mul_comm _ _
        have hg := partsOf_get hw (a / w) t (by omega)
        rw [h3] at hg hn i1 i2
        rw [spanOf_step hlt hw, h3]
        generalize a / w * w = lo at *
        generalize a / w = q at *
        have hql : q < (partsOf w t).length := (List.getElem?_eq_some_iff.1 hg).1
        have hgd : (partsOf w t).getD q ByteArray.empty = t.extract lo (min t.size (lo + w)) := by rw [List.getD, hg]; rfl
        refine ⟨?_, ?_⟩
        · simp only [allOk, List.all_cons, Bool.and_eq_true] at *
          refine ⟨?_, i1⟩
          simp only [partOk, Int.toNat_natCast, hgd, decide_eq_true_eq, ByteArray.size_extract]
          omega
        · rw [taken_cons, i2]
          have hp : piece (partsOf w t) ((q : Int), ((a - lo : Nat) : Int), ((min e (lo + w) - lo : Nat) : Int)) = t.extract a (min e (lo + w)) := by
            simp only [piece, Int.toNat_natCast, hgd, ByteArray.extract_extract]
            rw [show lo + (a - lo) = a by omega, show min (lo + (min e (lo + w) - lo)) (min t.size (lo + w)) = min e (lo + w) by omega]
          rw [hp, extract_join t _ _ _ (by omega) (by omega)]
      · obtain rfl : a = e := by omega
        rw [spanOf_end (by omega)]
        exact ⟨rfl, by rw [append_empty_bytes]; simp⟩
  exact fun a hae => h _ a (Nat.le_refl _) hae
end Go.Proofs.Ytgbgignnjpcncaa
