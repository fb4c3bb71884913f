/- Names, plainly: what is a part, what is a version; that the code's way and the page's way are one. No program in sight. -/
import Derived.Lib.IndexMore
namespace Go.Proofs.YtlkadlhncbgdbaaDoor
set_option linter.unusedVariables false
set_option linter.unusedSimpArgs false

/-- A small letter or a digit. -/
def letB (c : UInt8) : Bool := (decide (97 ≤ c.toNat) && decide (c.toNat ≤ 122)) || (decide (48 ≤ c.toNat) && decide (c.toNat ≤ 57))
/-- How many of a text's first bytes are so. -/
def lead (p : UInt8 → Bool) (l : List UInt8) : Nat := (l.takeWhile p).length
theorem lead_nil (p : UInt8 → Bool) : lead p [] = 0 := rfl
theorem lead_cons (p : UInt8 → Bool) (a : UInt8) (l : List UInt8) : lead p (a :: l) = if p a then lead p l + 1 else 0 := by
  unfold lead; rw [List.takeWhile_cons]; split <;> simp
theorem lead_le (p : UInt8 → Bool) (l : List UInt8) : lead p l ≤ l.length := by
  induction l with
  | nil => simp [lead]
  | cons a l ih => rw [lead_cons]; split <;> simp <;> omega
theorem lead_at (p : UInt8 → Bool) : ∀ (l : List UInt8) (i : Nat), i < lead p l → ∃ c, l[i]? = some c ∧ p c = true := by
  intro l
  induction l with
  | nil => intro i hi; simp [lead] at hi
  | cons a l ih =>
    intro i hi
    rw [lead_cons] at hi
    split at hi
    · cases i with
      | zero => exact ⟨a, rfl, by assumption⟩
      | succ i => obtain ⟨c, h1, h2⟩ := ih i (by omega); exact ⟨c, by simpa using h1, h2⟩
    · omega
theorem lead_stop (p : UInt8 → Bool) : ∀ (l : List UInt8) (c : UInt8), l[lead p l]? = some c → p c = false := by
  intro l
  induction l with
  | nil => intro c hc; simp at hc
  | cons a l ih =>
    intro c hc
    rw [lead_cons] at hc
    split at hc
    · exact ih c (by simpa using hc)
    · simp at hc; subst hc; simpa using ‹¬p _ = true›
/-- The number is told by what stands within it and behind it. -/
theorem lead_eq {p : UInt8 → Bool} {l : List UInt8} {n : Nat} (hn : n ≤ l.length) (h : ∀ i, i < n → ∃ c, l[i]? = some c ∧ p c = true) (hs : ∀ c, l[n]? = some c → p c = false) : lead p l = n := by
  rcases Nat.lt_trichotomy (lead p l) n with h1 | h1 | h1
  · obtain ⟨c, e, hc⟩ := h _ h1
    rw [lead_stop p l c e] at hc
    cases hc
  · exact h1
  · obtain ⟨c, e, hc⟩ := lead_at p l n h1
    rw [hs c e] at hc
    cases hc

/-- How many bytes of a text's begin may stand between two plain ones. -/
def betweenL (l : List UInt8) : Nat :=
  if 0 < lead (· == 45) l then lead (· == 45) l
  else if [95, 95].isPrefixOf l then 2 else if [46].isPrefixOf l || [95].isPrefixOf l then 1 else 0
/-- Whether a text is a part, as the code asks. -/
def partC : Nat → List UInt8 → Bool
  | 0, _ => false
  | f + 1, l =>
    if lead letB l = 0 then false
    else if (l.drop (lead letB l)) = [] then true
    else if betweenL (l.drop (lead letB l)) = 0 then false
    else partC f ((l.drop (lead letB l)).drop (betweenL (l.drop (lead letB l))))
def partL (l : List UInt8) : Bool := partC (l.length + 1) l
theorem partC_fuel : ∀ (f g : Nat) (l : List UInt8), l.length < f → l.length < g → partC f l = partC g l := by
  intro f
  induction f with
  | zero => intro g l h; omega
  | succ f ih =>
    intro g l h1 h2
    cases g with
    | zero => omega
    | succ g =>
      simp only [partC]
      have hle := lead_le letB l
      split
      · rfl
      · rename_i hn
        split
        · rfl
        · split
          · rfl
          · exact ih g _ (by simp only [List.length_drop]; omega) (by simp only [List.length_drop]; omega)

/-- What may stand between letters. -/
def sepOk (w : List UInt8) : Bool := w == [46] || w == [95] || w == [95, 95] || w.all (· == 45)
/-- A part's bytes from some place on, as the page asks. -/
def refGo : Nat → List UInt8 → Bool
  | 0, _ => true
  | _ + 1, [] => true
  | f + 1, c :: r => if letB c then refGo f r else if sepOk ((c :: r).takeWhile (fun c => !letB c)) then refGo f ((c :: r).dropWhile (fun c => !letB c)) else false
def refPartL (l : List UInt8) : Bool :=
  match l with
  | [] => false
  | c :: r => letB c && letB ((c :: r).getLast (by simp)) && refGo (c :: r).length (c :: r)
theorem drop_len_le (p : UInt8 → Bool) (l : List UInt8) : (l.dropWhile p).length ≤ l.length := by
  have := List.takeWhile_append_dropWhile (p := p) (l := l)
  have h := congrArg List.length this
  rw [List.length_append] at h; omega
theorem refGo_fuel : ∀ (f g : Nat) (l : List UInt8), l.length ≤ f → l.length ≤ g → refGo f l = refGo g l := by
  intro f
  induction f with
  | zero =>
    intro g l h1 h2
    have : l = [] := List.eq_nil_of_length_eq_zero (by omega)
    subst this
    cases g <;> rfl
  | succ f ih =>
    intro g l h1 h2
    cases l with
    | nil => cases g <;> rfl
    | cons c r =>
      cases g with
      | zero => simp at h2
      | succ g =>
        simp only [List.length_cons] at h1 h2
        simp only [refGo]
        split
        · exact ih g r (by omega) (by omega)
        · rename_i hc
          have hd : ((c :: r).dropWhile (fun c => !letB c)).length ≤ r.length := by
            rw [List.dropWhile_cons]; simp only [hc]; simp only [Bool.not_false, if_true]
            exact drop_len_le _ _
          split
          · exact ih g _ (by omega) (by omega)
          · rfl
theorem refGo_letters : ∀ (a r : List UInt8), (∀ c ∈ a, letB c = true) → refGo (a ++ r).length (a ++ r) = refGo r.length r := by
  intro a
  induction a with
  | nil => intro r _; rfl
  | cons c a ih =>
    intro r h
    have hc := h c (by simp)
    rw [List.cons_append, List.length_cons, refGo, if_pos hc]
    exact ih r (fun c hc => h c (by simp [hc]))
theorem not_sep_letter {c : UInt8} (h : letB c = true) : c ≠ 45 ∧ c ≠ 46 ∧ c ≠ 95 := by
  refine ⟨?_, ?_, ?_⟩ <;> (rintro rfl; revert h; decide)
/-- Where a whole gap may stand it is told as one. -/
theorem between_of_ok {w t : List UInt8} (hw : w ≠ []) (hk : sepOk w = true) (ht : ∀ c, t.head? = some c → letB c = true) : betweenL (w ++ t) = w.length := by
  have hd : ∀ c, t.head? = some c → (c == 45) = false ∧ (c == 95) = false := by
    intro c hc
    obtain ⟨h1, _, h3⟩ := not_sep_letter (ht c hc)
    exact ⟨beq_eq_false_iff_ne.2 h1, beq_eq_false_iff_ne.2 h3⟩
  unfold sepOk at hk
  simp only [Bool.or_eq_true, beq_iff_eq] at hk
  rcases hk with ((rfl | rfl) | rfl) | hk
  · cases t <;> simp [betweenL, lead, List.takeWhile_cons, List.isPrefixOf]
  · cases t with
    | nil => simp [betweenL, lead, List.takeWhile_cons, List.isPrefixOf]
    | cons c t =>
      obtain ⟨h1, h2⟩ := hd c rfl
      have h2' : (95 == c) = false := by rw [BEq.comm]; exact h2
      simp [betweenL, lead, List.takeWhile_cons, List.isPrefixOf, h2']
  · cases t <;> simp [betweenL, lead, List.takeWhile_cons, List.isPrefixOf]
  · have hl : lead (· == 45) (w ++ t) = w.length := by
      refine lead_eq (by simp) (fun i hi => ?_) (fun c hc => ?_)
      · refine ⟨w[i], by rw [List.getElem?_append_left hi]; exact List.getElem?_eq_getElem hi, ?_⟩
        exact List.all_eq_true.1 hk _ (List.getElem_mem hi)
      · rw [List.getElem?_append_right (by omega), Nat.sub_self] at hc
        rw [← List.head?_eq_getElem?] at hc
        exact (hd c hc).1
    have : 0 < w.length := List.length_pos_iff.2 hw
    unfold betweenL
    rw [hl, if_pos this]
/-- And what is told as a gap may stand there. -/
theorem ok_of_between {r : List UInt8} (h : betweenL r ≠ 0) : betweenL r ≤ r.length ∧ sepOk (r.take (betweenL r)) = true ∧ ∀ c ∈ r.take (betweenL r), letB c = false := by
  unfold betweenL at *
  split at h
  · rename_i h0
    rw [if_pos h0] at *
    have hall : ∀ c ∈ r.take (lead (· == 45) r), (c == 45) = true := by
      intro c hc
      obtain ⟨i, hi, rfl⟩ := List.getElem_of_mem hc
      rw [List.length_take] at hi
      obtain ⟨c, e, hc'⟩ := lead_at (· == 45) r i (by omega)
      rw [List.getElem_take]
      rw [List.getElem?_eq_getElem (by omega)] at e
      rw [Option.some.inj e]; exact hc'
    refine ⟨lead_le _ _, ?_, ?_⟩
    · unfold sepOk
      rw [List.all_eq_true.2 hall]; simp
    · intro c hc
      have := eq_of_beq (hall c hc)
      subst this; decide
  · rename_i h0
    rw [if_neg h0] at *
    split at h
    · rename_i h1
      rw [if_pos h1] at *
      obtain ⟨t, rfl⟩ := List.isPrefixOf_iff_prefix.1 h1
      refine ⟨by simp, by simp [sepOk], ?_⟩
      intro c hc; simp at hc; subst hc; decide
    · rename_i h1
      rw [if_neg h1] at *
      split at h
      · rename_i h2
        rw [if_pos h2] at *
        simp only [Bool.or_eq_true] at h2
        rcases h2 with h2 | h2
        · obtain ⟨t, rfl⟩ := List.isPrefixOf_iff_prefix.1 h2
          refine ⟨by simp, by simp [sepOk], ?_⟩
          intro c hc; simp at hc; subst hc; decide
        · obtain ⟨t, rfl⟩ := List.isPrefixOf_iff_prefix.1 h2
          refine ⟨by simp, by simp [sepOk], ?_⟩
          intro c hc; simp at hc; subst hc; decide
      · exact absurd rfl h
theorem partC_bad {f : Nat} {l : List UInt8} (h : ∀ c, l.head? = some c → letB c = false) : partC f l = false := by
  cases f with
  | zero => rfl
  | succ f =>
    have : lead letB l = 0 := by
      cases l with
      | nil => rfl
      | cons c l => rw [lead_cons, h c rfl]; rfl
    simp only [partC]
    rw [if_pos this]

theorem takeWhile_all {p : UInt8 → Bool} {l : List UInt8} : ∀ c ∈ l.takeWhile p, p c = true := by
  induction l with
  | nil => simp
  | cons a l ih =>
    intro c hc
    rw [List.takeWhile_cons] at hc
    split at hc
    · rcases List.mem_cons.1 hc with rfl | hc
      · assumption
      · exact ih c hc
    · simp at hc
theorem dropWhile_head {p : UInt8 → Bool} {l : List UInt8} : ∀ c, (l.dropWhile p).head? = some c → p c = false := by
  induction l with
  | nil => simp
  | cons a l ih =>
    intro c hc
    rw [List.dropWhile_cons] at hc
    split at hc
    · exact ih c hc
    · simp at hc; subst hc; simpa using ‹¬p _ = true›
theorem drop_lead {p : UInt8 → Bool} {l : List UInt8} : l.drop (lead p l) = l.dropWhile p := by
  conv => lhs; arg 2; rw [← List.takeWhile_append_dropWhile (p := p) (l := l)]
  rw [lead, List.drop_left]

/-- The code's way and the page's way tell the same. -/
theorem partC_ref : ∀ (f : Nat) (l : List UInt8), l.length < f → partC f l = refPartL l := by
  intro f
  induction f with
  | zero => intro l h; omega
  | succ f ih =>
    intro l hlen
    cases l with
    | nil => rfl
    | cons c0 r0 =>
    rcases Bool.eq_false_or_eq_true (letB c0) with hc0 | hc0
    rotate_left
    · rw [partC_bad (by intro c hc; simp at hc; subst hc; simpa using hc0)]
      simp [refPartL, hc0]
    generalize hl : c0 :: r0 = l at *
    have hlead : lead letB l ≠ 0 := by rw [← hl, lead_cons, if_pos hc0]; omega
    simp only [partC]
    rw [if_neg hlead, drop_lead]
    have hsplit := List.takeWhile_append_dropWhile (p := letB) (l := l)
    have hlet : ∀ c ∈ l.takeWhile letB, letB c = true := takeWhile_all
    have hhead : ∀ c, (l.dropWhile letB).head? = some c → letB c = false := dropWhile_head
    have hane : l.takeWhile letB ≠ [] := by
      intro e; apply hlead; unfold lead; rw [e]; rfl
    generalize l.takeWhile letB = a at *
    generalize l.dropWhile letB = r at *
    have hne : l ≠ [] := by rw [← hl]; simp
    have href : refPartL l = (letB (l.getLast hne) && refGo r.length r) := by
      have e1 : refPartL l = (letB c0 && letB (l.getLast hne) && refGo l.length l) := by subst hl; rfl
      rw [e1, hc0, Bool.true_and]
      congr 1
      rw [← hsplit]
      exact refGo_letters a r hlet
    rw [href]
    by_cases hr : r = []
    · subst hr
      rw [if_pos rfl]
      have : letB (l.getLast hne) = true := by
        apply hlet
        have h := List.getLast_mem hne
        have e : l = a := by rw [← hsplit]; simp
        exact e ▸ h
      rw [this]
      rfl
    rw [if_neg hr]
    have hlast : l.getLast hne = r.getLast hr := by
      have : ∀ (x : List UInt8) (hx : x ≠ []), x = a ++ r → x.getLast hx = r.getLast hr := by
        intro x hx e
        subst e
        exact List.getLast_append_of_ne_nil _ hr
      exact this l hne hsplit.symm
    rw [hlast]
    -- the gap
    have hs2 := List.takeWhile_append_dropWhile (p := fun c => !letB c) (l := r)
    have hw : ∀ c ∈ r.takeWhile (fun c => !letB c), letB c = false := fun c hc => by simpa using takeWhile_all c hc
    have ht : ∀ c, (r.dropWhile (fun c => !letB c)).head? = some c → letB c = true := fun c hc => by simpa using dropWhile_head c hc
    have hgo : refGo r.length r = (sepOk (r.takeWhile (fun c => !letB c)) && refGo (r.dropWhile (fun c => !letB c)).length (r.dropWhile (fun c => !letB c))) := by
      cases r with
      | nil => exact absurd rfl hr
      | cons c r' =>
        have hc := hhead c rfl
        rw [List.length_cons, refGo, hc]
        simp only [Bool.false_eq_true, if_false]
        have hd : ((c :: r').dropWhile (fun c => !letB c)).length ≤ r'.length := by
          rw [List.dropWhile_cons]; simp only [hc]; simp only [Bool.not_false, if_true]
          exact drop_len_le _ _
        cases hso : sepOk ((c :: r').takeWhile (fun c => !letB c)) with
        | false => simp
        | true =>
          simp only [if_true, Bool.true_and]
          exact refGo_fuel _ _ _ hd (Nat.le_refl _)
    have hwne : r.takeWhile (fun c => !letB c) ≠ [] := by
      cases r with
      | nil => exact absurd rfl hr
      | cons c r' => rw [List.takeWhile_cons, hhead c rfl]; simp
    rw [hgo]
    have hrl : r.length ≤ l.length := by rw [← hsplit, List.length_append]; omega
    have hrl2 : r.length < l.length := by
      rw [← hsplit, List.length_append]
      have := List.length_pos_iff.2 hane
      omega
    generalize r.takeWhile (fun c => !letB c) = w at *
    generalize r.dropWhile (fun c => !letB c) = t at *
    have hwp := List.length_pos_iff.2 hwne
    by_cases hok : sepOk w = true
    · have hb : betweenL r = w.length := by rw [← hs2]; exact between_of_ok hwne hok ht
      rw [hb, if_neg (by omega)]
      have hdr : r.drop w.length = t := by rw [← hs2, List.drop_left]
      rw [hdr, hok, Bool.true_and]
      cases t with
      | nil =>
        rw [partC_bad (by simp)]
        have e : r = w := by rw [← hs2]; simp
        have : letB (r.getLast hr) = false := by
          apply hw
          have h := List.getLast_mem hr
          exact e ▸ h
        rw [this]; rfl
      | cons c t' =>
        have htl : (c :: t').length ≤ r.length := by rw [← hs2, List.length_append]; omega
        rw [ih _ (by omega)]
        have hc := ht c rfl
        have e : r.getLast hr = (c :: t').getLast (by simp) := by
          have : ∀ (x : List UInt8) (hx : x ≠ []), x = w ++ (c :: t') → x.getLast hx = (c :: t').getLast (by simp) := by
            intro x hx e
            subst e
            exact List.getLast_append_of_ne_nil _ (by simp)
          exact this r hr hs2.symm
        rw [e]
        simp only [refPartL, hc, Bool.true_and]
    · rw [Bool.eq_false_iff.2 hok, Bool.false_and, Bool.and_false]
      by_cases hb : betweenL r = 0
      · rw [if_pos hb]
      · rw [if_neg hb]
        obtain ⟨h1, h2, h3⟩ := ok_of_between hb
        apply partC_bad
        intro c hc
        rw [List.head?_drop] at hc
        have hlt : betweenL r < w.length := by
          rcases Nat.lt_trichotomy (betweenL r) w.length with h | h | h
          · exact h
          · exfalso; apply hok
            rw [h] at h2
            have : r.take w.length = w := by rw [← hs2, List.take_left]
            rwa [this] at h2
          · exfalso
            have hi : w.length < r.length := by omega
            have hm : r[w.length] ∈ r.take (betweenL r) := by
              rw [List.mem_take_iff_getElem]
              exact ⟨w.length, by omega, rfl⟩
            have hf := h3 _ hm
            have hh : t.head? = some r[w.length] := by
              have e : r[w.length]? = t[0]? := by rw [← hs2, List.getElem?_append_right (Nat.le_refl _), Nat.sub_self]
              rw [List.head?_eq_getElem?, ← e, List.getElem?_eq_getElem hi]
            rw [ht _ hh] at hf
            cases hf
        have e : r[betweenL r]? = w[betweenL r]? := by
          have h := List.getElem?_append_left (l₂ := t) hlt
          rwa [hs2] at h
        rw [e, List.getElem?_eq_getElem hlt] at hc
        rw [← Option.some.inj hc]
        exact hw _ (List.getElem_mem hlt)
theorem part_ref (l : List UInt8) : partL l = refPartL l := partC_ref _ l (by omega)
end Go.Proofs.YtlkadlhncbgdbaaDoor
