/- shard.Take's library calls: strings.Join, strings.Trim, slices.ContainsFunc. -/
import Derived.Test.YtiminahobifomaaDoorShF
import Derived.Test.YtiminahobifomaaDoorShG
import Derived.Test.YtiminahobifomaaDoorShelf12
import Derived.Test.YtiminahobifomaaDoorTextRow
namespace Go.Proofs.YtiminahobifomaaDoor
open Go.ChangeShapes Go.WideShapes Go.ChangeAt Go.RowKit Go.Joins
set_option linter.unusedVariables false
set_option linter.unusedSimpArgs false

theorem trimB_nil (l : List UInt8) : (Lib.trimB l 0).isEmpty = l.all (· == 0) := by
  unfold Lib.trimB Lib.trimLeftB Lib.trimRightB
  rw [Bool.eq_iff_iff, List.isEmpty_iff, List.all_eq_true]
  constructor
  · intro h x hx
    have h1 : ∀ (m : List UInt8), m.dropWhile (· == 0) = [] → ∀ x ∈ m, (x == 0) = true := by
      intro m
      induction m with
      | nil => intro _ x hx; simp at hx
      | cons a m ih =>
        intro h x hx
        rw [List.dropWhile_cons] at h
        split at h
        · rcases List.mem_cons.1 hx with rfl | hx
          · assumption
          · exact ih h x hx
        · cases h
    have h2 := h1 _ h
    by_cases hx2 : x ∈ (l.reverse.dropWhile (· == 0))
    · exact h2 x (by simpa using hx2)
    · have h3 : x ∈ l.reverse.takeWhile (· == 0) := by
        have : x ∈ l.reverse := by simpa using hx
        rw [← List.takeWhile_append_dropWhile (p := (· == 0)) (l := l.reverse)] at this
        rcases List.mem_append.1 this with h | h
        · exact h
        · exact absurd h hx2
      have h4 : ∀ (m : List UInt8), ∀ x ∈ m.takeWhile (· == 0), (x == 0) = true := by
        intro m
        induction m with
        | nil => simp
        | cons a m ih =>
          intro x hx
          rw [List.takeWhile_cons] at hx
          split at hx
          · rcases List.mem_cons.1 hx with rfl | hx
            · assumption
            · exact ih x hx
          · simp at hx
      exact h4 _ x h3
  · intro h
    have h1 : ∀ (m : List UInt8), (∀ x ∈ m, (x == 0) = true) → m.dropWhile (· == 0) = [] := by
      intro m
      induction m with
      | nil => intro _; rfl
      | cons a m ih =>
        intro h
        rw [List.dropWhile_cons, if_pos (h a (by simp))]
        exact ih (fun x hx => h x (by simp [hx]))
    rw [h1 l.reverse (fun x hx => h x (by simpa using hx))]
    rfl
theorem join_nil (xs : List (List UInt8)) : Lib.join xs [] = xs.flatten := by
  unfold Lib.join
  induction xs with
  | nil => rfl
  | cons a t ih =>
    cases t with
    | nil => simp [List.intercalate, List.intersperse]
    | cons b t => simp [List.intercalate, List.intersperse] at ih ⊢; exact ih

/-- A row of texts that the code owns. -/
def OwnS (w : World) (v : Value) (l : List ByteArray) : Prop := ∃ B, w.ownsRow B 9 1 v l.length (l.map Value.string)
theorem OwnS.below {w w' : World} {v : Value} {l : List ByteArray} (h : OwnS w v l) (hb : Below w.heap.size w w') : OwnS w' v l := by
  obtain ⟨B, h⟩ := h
  exact ⟨B, own_below h hb⟩
theorem OwnS.shape {w : World} {v : Value} {l : List ByteArray} (h : OwnS w v l) : ∃ A c, v = .slice A l.length c := by
  obtain ⟨B, h⟩ := h
  exact own_shape h
theorem OwnS.strs {w : World} {v : Value} {l : List ByteArray} (h : OwnS w v l) : Strs6 w v l := by
  obtain ⟨B, h⟩ := h
  exact RowIs.of_own h
theorem OwnS.at_ {w : World} {A : Option Addr} {c : Nat} {l : List ByteArray} (h : OwnS w (.slice A l.length c) l) (hl : 1 ≤ l.length) :
    ∃ b, A = some ⟨b, 0, none⟩ ∧ b < w.heap.size ∧ l.length ≤ c ∧ ∀ (j : Nat) x, l[j]? = some x → w.cell? ⟨b, 0 + j, none⟩ = some (.string x) := by
  obtain ⟨B, h⟩ := h
  rcases h.2 with ⟨_, h0⟩ | ⟨g, cap, cur, he, hbg, hg, hnc, hcm, hcs, htake⟩
  · omega
  · have hc := h.cells (g := g) (by rw [he]; rfl)
    injection he with e1 e2 e3
    subst e1 e3
    refine ⟨g, rfl, (Array.getElem?_eq_some_iff.1 hg).1, hnc, fun j x hj => ?_⟩
    have := hc j (.string x) (by simp [hj])
    rw [Addr.add_lit] at this
    exact this

theorem take_pred (w : World) : PredAt Tryd.prog 24 #[] Value.string (fun x : ByteArray => !decide (x.size = 64)) w := by
  intro W x hb
  unfold FnGives
  show Calls Tryd.prog 24 #[.string x] W _
  refine (take1_is x W).mono ?_
  rintro e w' ⟨rfl, rfl⟩
  exact ⟨rfl, 0, rfl⟩
def oddB (l : List ByteArray) : Bool := l.any fun x => !decide (x.size = 64)
theorem odd_no {l : List ByteArray} (h : oddB l = false) : ∀ x ∈ l, x.size = 64 := fun x hx => by
  have := List.any_eq_false.1 h x hx
  simpa using this
theorem odd_yes {l : List ByteArray} (h : oddB l = true) : ∃ x ∈ l, x.size ≠ 64 := by
  obtain ⟨x, hx, h2⟩ := List.any_eq_true.1 h
  exact ⟨x, hx, by simpa using h2⟩
theorem contains12 (A : Option Addr) (c : Nat) (l : List ByteArray) (w : World) (h : OwnS w (.slice A l.length c) l) (h1 : 1 ≤ l.length) (hl : l.length ≤ 1000000) :
    Calls Tryd.prog 23 #[.slice A l.length c, .func (.func 24) #[] #[]] w fun e w' => e = .returned (.bool (oddB l)) ∧ Below w.heap.size w w' := by
  obtain ⟨b, rfl, hb, hc, hcs⟩ := h.at_ h1
  refine (sh_slices_ContainsFunc Value.string (fun x : ByteArray => !decide (x.size = 64)) 24 _ (enters_of Tryd.func24 (by kernel_rfl) rfl) b 0 l.length c l w (take_pred w) (Nat.le_refl _) (by omega) (fun j hj => ?_)).mono fun e w' ⟨he, q, hw⟩ => ?_
  · rw [hcs j (l[j]!) (by rw [List.getElem?_eq_getElem hj, List.getElem!_eq_getElem?_getD, List.getElem?_eq_getElem hj]; rfl)]
  · subst hw
    refine ⟨?_, below_drewN (Below.refl _ _) _⟩
    rw [he, List.take_length]
    rfl
theorem bytes_len (s : ByteArray) : s.data.toList.length = s.size := by simp
theorem flat_len (l : List ByteArray) : ((l.map (·.data.toList)).flatten).length = (joinB l).length := by
  induction l with
  | nil => rfl
  | cons a l ih => rw [List.map_cons, List.flatten_cons, joinB_cons, List.length_append, List.length_append, ih, bytesOf_length, bytes_len]
theorem flat_str (l : List ByteArray) : (⟨((l.map (·.data.toList)).flatten).toArray⟩ : ByteArray) = strOf8 (joinB l) := by
  induction l with
  | nil => rfl
  | cons a l ih =>
    rw [joinB_cons, strOf8_app, strOf8_of, ← ih]
    apply ByteArray.ext
    simp [ByteArray.data_append]
theorem join12 (A : Option Addr) (c : Nat) (l : List ByteArray) (w : World) (h : OwnS w (.slice A l.length c) l) (hl : l.length ≤ 1000000) (hs : (joinB l).length ≤ 10000000) :
    Calls Tryd.prog 25 #[.slice A l.length c, .string ⟨#[]⟩] w fun e w' => e = .returned (.string (strOf8 (joinB l))) ∧ Below w.heap.size w w' := by
  by_cases h0 : l = []
  · subst h0
    refine (sh_strings_Join_none A c ⟨#[]⟩ w).mono ?_
    rintro e w' ⟨rfl, rfl⟩
    exact ⟨rfl, Below.refl _ _⟩
  · obtain ⟨b, rfl, hb, hc, hcs⟩ := h.at_ (List.length_pos_iff.2 h0)
    have e0 : (⟨#[]⟩ : ByteArray).data.toList = [] := rfl
    have e1 : Lib.join (l.map (·.data.toList)) (⟨#[]⟩ : ByteArray).data.toList = (l.map (·.data.toList)).flatten := by rw [e0, join_nil]
    refine (sh_strings_Join b 0 c l ⟨#[]⟩ w hcs hb (by omega) hc (by rw [e1, flat_len]; omega)).mono fun e w' ⟨he, hb⟩ => ⟨?_, hb⟩
    rw [he, e1, flat_str]
theorem all_zero (l : List ByteArray) : (strOf8 (joinB l)).data.toList.all (· == 0) = blankB l := by
  rw [blankB, strOf8, Bool.eq_iff_iff, List.all_eq_true, List.all_eq_true]
  simp only [List.mem_map, beq_iff_eq]
  constructor
  · intro h b hb
    have := h (UInt8.ofNat b) ⟨b, hb, rfl⟩
    have hlt := joinB_lt l b hb
    have e := congrArg UInt8.toNat this
    rw [UInt8.toNat_ofNat'] at e
    simpa [Nat.mod_eq_of_lt hlt] using e
  · rintro h x ⟨b, hb, rfl⟩
    rw [h b hb]
    rfl
theorem trim12 (l : List ByteArray) (w : World) (hs : (joinB l).length ≤ 10000000) :
    Calls Tryd.prog 28 #[.string (strOf8 (joinB l)), .string ⟨#[0]⟩] w fun e w' => (∃ T : ByteArray, e = .returned (.string T) ∧ T.toList.isEmpty = blankB l) ∧ Below w.heap.size w w' := by
  refine (sh_strings_Trim_one (strOf8 (joinB l)) 0 (by decide) w (by rw [strOf8_size]; omega)).mono fun e w' ⟨he, hw⟩ => ?_
  refine ⟨⟨_, he, ?_⟩, ?_⟩
  · rw [ByteArray.toList_eq, ← all_zero, ← trimB_nil]
  · rcases hw with rfl | rfl
    · exact Below.refl _ _
    · exact ⟨rfl, rfl, rfl, Nat.le_refl _, fun _ _ => rfl⟩
end Go.Proofs.YtiminahobifomaaDoor
