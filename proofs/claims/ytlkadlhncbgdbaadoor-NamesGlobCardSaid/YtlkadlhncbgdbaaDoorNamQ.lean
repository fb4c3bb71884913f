/- Names, plainly: a name cut at its first colon, its parts; versions. No program in sight. -/
import Derived.Test.YtlkadlhncbgdbaaDoorNamP
import Derived.Lib.SplitLaws
namespace Go.Proofs.YtlkadlhncbgdbaaDoor
set_option linter.unusedVariables false
set_option linter.unusedSimpArgs false

/-- The place of a byte, or the length. -/
def upTo (c : UInt8) (l : List UInt8) : Nat := lead (· != c) l
theorem upTo_le (c : UInt8) (l : List UInt8) : upTo c l ≤ l.length := lead_le _ _
theorem index_upTo (c : UInt8) : ∀ l : List UInt8, Lib.index l [c] = if upTo c l < l.length then (upTo c l : Int) else -1 := by
  intro l
  induction l with
  | nil => rfl
  | cons b l ih =>
    unfold Lib.index
    unfold upTo at *
    rw [lead_cons]
    by_cases h : b = c
    · subst h
      simp [List.isPrefixOf]
    · have h1 : (c == b) = false := beq_eq_false_iff_ne.2 (fun e => h e.symm)
      have h2 : (b != c) = true := by simpa using h
      simp only [List.isPrefixOf, h1, h2, Bool.false_and, Bool.false_eq_true, if_false, if_true, List.length_cons]
      rw [ih]
      by_cases hl : lead (· != c) l < l.length
      · have : (((lead (· != c) l : Nat) : Int) == -1) = false := beq_eq_false_iff_ne.2 (by omega)
        have h4 : lead (· != c) l + 1 < l.length + 1 := by omega
        simp only [if_pos hl, this, if_pos h4, Bool.false_eq_true, if_false]
        omega
      · have h4 : ¬ (lead (· != c) l + 1 < l.length + 1) := by omega
        simp only [if_neg hl, if_neg h4]
        decide
/-- What stands ahead of the colon, and behind it. -/
def headL (l : List UInt8) : List UInt8 := l.take (upTo 58 l)
def latestL : List UInt8 := [108, 97, 116, 101, 115, 116]
def verOf (l : List UInt8) : List UInt8 := if upTo 58 l < l.length then l.drop (upTo 58 l + 1) else latestL
theorem cut_eq (l : List UInt8) : Lib.cut l [58] = (headL l, if upTo 58 l < l.length then l.drop (upTo 58 l + 1) else [], decide (upTo 58 l < l.length)) := by
  unfold Lib.cut headL
  rw [index_upTo]
  have := upTo_le 58 l
  by_cases h : upTo 58 l < l.length
  · rw [if_pos h, if_pos (by omega), if_pos h]
    simp [h]
  · rw [if_neg h, if_neg (by omega), if_neg h]
    rw [List.take_of_length_le (by omega)]
    simp [h]

/-- A text cut at each slash. -/
def segs : List UInt8 → List (List UInt8)
  | [] => [[]]
  | c :: r => if c = 47 then [] :: segs r else match segs r with | [] => [[c]] | h :: t => (c :: h) :: t
theorem segs_ne (l : List UInt8) : segs l ≠ [] := by
  cases l with
  | nil => simp [segs]
  | cons c r => unfold segs; split; simp; split <;> simp
theorem segs_plain : ∀ a : List UInt8, (∀ c ∈ a, c ≠ 47) → segs a = [a] := by
  intro a
  induction a with
  | nil => intro _; rfl
  | cons c a ih => intro h; rw [segs, if_neg (h c (by simp)), ih (fun c hc => h c (by simp [hc]))]
theorem segs_cut : ∀ (a b : List UInt8), (∀ c ∈ a, c ≠ 47) → segs (a ++ 47 :: b) = a :: segs b := by
  intro a
  induction a with
  | nil => intro b _; simp [segs]
  | cons c a ih => intro b h; rw [List.cons_append, segs, if_neg (h c (by simp)), ih b (fun c hc => h c (by simp [hc]))]
theorem splitK_segs : ∀ l : List UInt8, Lib.splitK [47] 0 (l.count 47) l = segs l := by
  intro l
  induction l with
  | nil => rfl
  | cons c r ih =>
    by_cases h : c = 47
    · subst h
      rw [List.count_cons_self, Lib.splitK, segs, if_pos rfl, ← ih]
      have : Lib.index (47 :: r) [47] = 0 := by simp [Lib.index, List.isPrefixOf]
      rw [this]
      simp
    · rw [List.count_cons_of_ne h, segs, if_neg h]
      have h1 : ((47 : UInt8) == c) = false := beq_eq_false_iff_ne.2 (fun e => h e.symm)
      have hi : Lib.index (c :: r) [47] = if Lib.index r [47] == -1 then -1 else Lib.index r [47] + 1 := by
        rw [Lib.index]
        simp [List.isPrefixOf, h1]
      cases hk : r.count 47 with
      | zero => rw [hk] at ih; rw [Lib.splitK] at ih ⊢; rw [← ih]
      | succ k =>
        rw [hk] at ih
        rw [Lib.splitK] at ih ⊢
        rw [hi, ← ih]
        have hge := Lib.index_ge r [47]
        by_cases he : (Lib.index r [47] == -1) = true
        · rw [if_pos he, if_pos (by decide), if_pos he]
        · rw [if_neg he, if_neg he]
          have hne : Lib.index r [47] ≠ -1 := by simpa using he
          obtain ⟨n, hn⟩ : ∃ n : Nat, Lib.index r [47] = n := ⟨(Lib.index r [47]).toNat, by omega⟩
          rw [hn]
          have e1 : ((n : Int) + 1).toNat = n + 1 := by omega
          have e2 : (((n : Int) + 1) == -1) = false := beq_eq_false_iff_ne.2 (by omega)
          have e3 : (((n : Int)) == -1) = false := beq_eq_false_iff_ne.2 (by omega)
          rw [e1, e2]
          simp
/-- Put together again. -/
def joined : List (List UInt8) → List UInt8
  | [] => []
  | [a] => a
  | a :: b :: r => a ++ 47 :: joined (b :: r)
theorem joined_segs : ∀ l : List UInt8, joined (segs l) = l := by
  intro l
  induction l with
  | nil => rfl
  | cons c r ih =>
    rw [segs]
    split
    · rename_i h
      have := segs_ne r
      cases hs : segs r with
      | nil => exact absurd hs this
      | cons a t => rw [joined, ← hs, ih, h]; rfl
    · have := segs_ne r
      cases hs : segs r with
      | nil => exact absurd hs this
      | cons a t =>
        rw [hs] at ih
        cases t with
        | nil => simp [joined] at ih ⊢; exact ih
        | cons b t => simp only [joined] at ih ⊢; rw [List.cons_append, ih]

/-- What may begin a version; what may stand in it. -/
def verC0 (c : UInt8) : Bool := letB c || (decide (65 ≤ c.toNat) && decide (c.toNat ≤ 90)) || decide (c = 95)
def verAt (l : List UInt8) (i : Nat) : Bool := verC0 (l.getD i 0) || (decide (i ≠ 0) && (decide (l.getD i 0 = 46) || decide (l.getD i 0 = 45)))
def verL (l : List UInt8) : Bool := decide (l ≠ []) && (List.range l.length).all (verAt l)
theorem verL_yes {l : List UInt8} (h0 : 0 < l.length) (h : ∀ i, i < l.length → verAt l i = true) : verL l = true := by
  unfold verL
  rw [decide_eq_true (List.length_pos_iff.1 h0), Bool.true_and, List.all_eq_true]
  intro i hi; exact h i (List.mem_range.1 hi)
theorem verL_bad {l : List UInt8} {i : Nat} (hi : i < l.length) (h : verAt l i = false) : verL l = false := by
  unfold verL
  have : (List.range l.length).all (verAt l) = false := by
    rw [List.all_eq_false]
    exact ⟨i, List.mem_range.2 hi, by simp [h]⟩
  rw [this, Bool.and_false]

/-- Whether a text is a name. -/
def nameOk (l : List UInt8) : Bool := decide (l.length ≤ 40) && ((segs (headL l)).all partL && verL (verOf l))
end Go.Proofs.YtlkadlhncbgdbaaDoor
