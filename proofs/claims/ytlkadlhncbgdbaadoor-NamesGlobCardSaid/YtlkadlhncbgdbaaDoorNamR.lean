/- Patterns, plainly: what a pattern matches; the forward way and the backward way. No program in sight. -/
import Derived.Test.YtlkadlhncbgdbaaDoorNamQ
namespace Go.Proofs.YtlkadlhncbgdbaaDoor
set_option linter.unusedVariables false
set_option linter.unusedSimpArgs false

/-- A pattern's pieces: so many bytes that may be passed over; one byte. -/
inductive Tok where
  | many (ok : UInt8 → Bool)
  | ch (c : UInt8)
def okAll (_ : UInt8) : Bool := true
def okIn (c : UInt8) : Bool := decide (c.toNat ≠ 47) && decide (c.toNat ≠ 58)
def parse : List UInt8 → List Tok
  | [] => []
  | c :: r => if c = 42 then (match r with | [] => [.many okIn] | d :: q => if d = 42 then .many okAll :: parse q else .many okIn :: parse (d :: q)) else .ch c :: parse r
termination_by l => l.length
theorem parse_nil : parse [] = [] := by unfold parse; rfl
theorem parse_all (q : List UInt8) : parse (42 :: 42 :: q) = .many okAll :: parse q := by
  conv => lhs; unfold parse
  simp
theorem parse_one {r : List UInt8} (h : r.head? ≠ some 42) : parse (42 :: r) = .many okIn :: parse r := by
  conv => lhs; unfold parse
  cases r with
  | nil => simp [parse_nil]
  | cons d q =>
    have : d ≠ 42 := fun e => h (by simp [e])
    simp [this]
theorem parse_ch {c : UInt8} {r : List UInt8} (h : c ≠ 42) : parse (c :: r) = .ch c :: parse r := by
  conv => lhs; unfold parse
  simp [h]

def manyM (ok : UInt8 → Bool) (g : List UInt8 → Bool) : List UInt8 → Bool
  | [] => g []
  | x :: t => g (x :: t) || (ok x && manyM ok g t)
/-- Whether pieces match a text. -/
def M : List Tok → List UInt8 → Bool
  | [], s => s.isEmpty
  | .many ok :: p, s => manyM ok (M p) s
  | .ch c :: p, s => match s with | [] => false | x :: t => (x == c) && M p t
theorem manyM_now {ok : UInt8 → Bool} {g : List UInt8 → Bool} {s : List UInt8} (h : g s = true) : manyM ok g s = true := by
  cases s <;> simp [manyM, h]
theorem manyM_on {ok : UInt8 → Bool} {g : List UInt8 → Bool} {x : UInt8} {s : List UInt8} (hx : ok x = true) (h : manyM ok g s = true) : manyM ok g (x :: s) = true := by
  simp [manyM, h, hx]
/-- Every text is of itself as a pattern. -/
theorem match_self : ∀ (n : Nat) (s : List UInt8), s.length ≤ n → M (parse s) s = true := by
  intro n
  induction n with
  | zero => intro s h; obtain rfl : s = [] := List.eq_nil_of_length_eq_zero (by omega); rw [parse_nil]; rfl
  | succ n ih =>
    intro s h
    cases s with
    | nil => rw [parse_nil]; rfl
    | cons c r =>
      simp only [List.length_cons] at h
      by_cases hc : c = 42
      · subst hc
        cases r with
        | nil => rw [parse_one (by simp), parse_nil]; rfl
        | cons d q =>
          by_cases hd : d = 42
          · subst hd
            rw [parse_all]
            simp only [List.length_cons] at h
            exact manyM_on rfl (manyM_on rfl (manyM_now (ih q (by omega))))
          · rw [parse_one (by simp [hd])]
            exact manyM_on (by decide) (manyM_now (ih (d :: q) (by omega)))
      · rw [parse_ch hc]
        simp [M, ih r (by omega)]
theorem match_all : ∀ s : List UInt8, M (parse [42, 42]) s = true := by
  intro s
  rw [parse_all, parse_nil]
  show manyM okAll (M []) s = true
  induction s with
  | nil => rfl
  | cons x t ih => exact manyM_on rfl ih

/-- What is reached, byte by byte. -/
def stepOver (ok : UInt8 → Bool) (l : List UInt8) (f : Nat → Bool) : Nat → Bool
  | 0 => f 0
  | i + 1 => f (i + 1) || (stepOver ok l f i && ok (l.getD i 0))
def stepCh (c : UInt8) (l : List UInt8) (f : Nat → Bool) : Nat → Bool
  | 0 => false
  | i + 1 => f i && (l.getD i 0 == c)
/-- Whether what is reached can be gone on from. -/
def Fwd (f : Nat → Bool) (p : List Tok) (l : List UInt8) : Prop := ∃ i, i ≤ l.length ∧ f i = true ∧ M p (l.drop i) = true
theorem drop_cons {l : List UInt8} {i : Nat} (h : i < l.length) : l.drop i = l.getD i 0 :: l.drop (i + 1) := by
  rw [List.drop_eq_getElem_cons h, List.getElem_eq_getD (fallback := 0)]
theorem fwd_ch (c : UInt8) (f : Nat → Bool) (p : List Tok) (l : List UInt8) : Fwd f (.ch c :: p) l ↔ Fwd (stepCh c l f) p l := by
  constructor
  · rintro ⟨i, hi, hf, hm⟩
    by_cases hl : i < l.length
    · rw [drop_cons hl] at hm
      simp only [M, Bool.and_eq_true] at hm
      exact ⟨i + 1, by omega, by simp only [stepCh, hf, hm.1, Bool.and_self], hm.2⟩
    · rw [List.drop_of_length_le (by omega)] at hm
      simp [M] at hm
  · rintro ⟨i, hi, hf, hm⟩
    cases i with
    | zero => simp [stepCh] at hf
    | succ i =>
      simp only [stepCh, Bool.and_eq_true] at hf
      refine ⟨i, by omega, hf.1, ?_⟩
      rw [drop_cons (by omega)]
      simp only [M, hf.2, hm, Bool.and_self]
theorem many_fwd {ok : UInt8 → Bool} {f : Nat → Bool} {p : List Tok} {l : List UInt8} : ∀ (n i : Nat), l.length - i ≤ n → i ≤ l.length → stepOver ok l f i = true → manyM ok (M p) (l.drop i) = true → Fwd (stepOver ok l f) p l := by
  intro n
  induction n with
  | zero =>
    intro i hn hi hf hm
    have e : l.drop i = [] := List.drop_of_length_le (by omega)
    rw [e] at hm
    exact ⟨i, hi, hf, by rw [e]; exact hm⟩
  | succ n ih =>
    intro i hn hi hf hm
    by_cases hl : i < l.length
    · rw [drop_cons hl] at hm
      simp only [manyM, Bool.or_eq_true, Bool.and_eq_true] at hm
      rcases hm with hm | ⟨h1, h2⟩
      · exact ⟨i, hi, hf, by rw [drop_cons hl]; exact hm⟩
      · refine ih (i + 1) (by omega) (by omega) ?_ h2
        simp only [stepOver, hf, h1, Bool.and_self, Bool.or_true]
    · have e : l.drop i = [] := List.drop_of_length_le (by omega)
      rw [e] at hm
      exact ⟨i, hi, hf, by rw [e]; exact hm⟩
theorem many_bwd {ok : UInt8 → Bool} {f : Nat → Bool} {p : List Tok} {l : List UInt8} : ∀ (i : Nat), i ≤ l.length → stepOver ok l f i = true → manyM ok (M p) (l.drop i) = true → Fwd f (.many ok :: p) l := by
  intro i
  induction i with
  | zero => intro hi hf hm; exact ⟨0, hi, hf, hm⟩
  | succ i ih =>
    intro hi hf hm
    simp only [stepOver, Bool.or_eq_true, Bool.and_eq_true] at hf
    rcases hf with hf | ⟨h1, h2⟩
    · exact ⟨i + 1, hi, hf, hm⟩
    · refine ih (by omega) h1 ?_
      rw [drop_cons (by omega)]
      exact manyM_on h2 hm
theorem fwd_many (ok : UInt8 → Bool) (f : Nat → Bool) (p : List Tok) (l : List UInt8) : Fwd f (.many ok :: p) l ↔ Fwd (stepOver ok l f) p l := by
  constructor
  · rintro ⟨i, hi, hf, hm⟩
    have hso : stepOver ok l f i = true := by cases i <;> simp [stepOver, hf]
    exact many_fwd _ i (Nat.le_refl _) hi hso hm
  · rintro ⟨i, hi, hf, hm⟩
    exact many_bwd i hi hf (manyM_now hm)
theorem fwd_nil (f : Nat → Bool) (l : List UInt8) : Fwd f [] l ↔ f l.length = true := by
  constructor
  · rintro ⟨i, hi, hf, hm⟩
    have e : l.drop i = [] := by simpa [M] using hm
    have : l.length ≤ i := by simpa using e
    have : i = l.length := by omega
    rw [← this]; exact hf
  · intro h
    exact ⟨l.length, Nat.le_refl _, h, by simp [M]⟩
/-- A pattern's first step, as the code takes it. -/
def firstTok (p : List UInt8) : Tok := match p with | [] => .many okAll | c :: r => if [42, 42].isPrefixOf p then .many okAll else if c = 42 then .many okIn else .ch c
def restPat (p : List UInt8) : List UInt8 := if [42, 42].isPrefixOf p then p.drop 2 else p.drop 1
theorem parse_first {p : List UInt8} (h : p ≠ []) : parse p = firstTok p :: parse (restPat p) := by
  cases p with
  | nil => exact absurd rfl h
  | cons c r =>
    by_cases hc : c = 42
    · subst hc
      cases r with
      | nil => rw [parse_one (by simp)]; simp [firstTok, restPat, List.isPrefixOf]
      | cons d q =>
        by_cases hd : d = 42
        · subst hd; rw [parse_all]; simp [firstTok, restPat, List.isPrefixOf]
        · have hd' : (42 == d) = false := beq_eq_false_iff_ne.2 (fun e => hd e.symm)
          rw [parse_one (by simp [hd])]; simp [firstTok, restPat, List.isPrefixOf, hd']
    · have hc' : (42 == c) = false := beq_eq_false_iff_ne.2 (fun e => hc e.symm)
      rw [parse_ch hc]; simp [firstTok, restPat, List.isPrefixOf, hc', hc]
end Go.Proofs.YtlkadlhncbgdbaaDoor
