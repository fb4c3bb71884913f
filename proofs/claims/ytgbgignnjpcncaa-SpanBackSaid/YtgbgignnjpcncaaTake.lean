/- What parts take of texts: what the page says; the walks. -/
import Derived.Test.YtgbgignnjpcncaaSpanD
import Derived.Test.YtgbgignnjpcncaaStrRow
import Derived.Test.YtgbgignnjpcncaaBuilder
import Derived.BigQuiet
import Derived.Deep.RegionHeld3
namespace Go.Proofs.Ytgbgignnjpcncaa
open Go.ChangeShapes Go.WideShapes Go.ChangeAt Go.RowKit Go.Joins
set_option linter.unusedVariables false
set_option linter.unusedSimpArgs false

/-- A part of a text. -/
def piece (L : List ByteArray) (p : T3) : ByteArray := (L.getD p.1.toNat ByteArray.empty).extract p.2.1.toNat p.2.2.toNat
/-- Whether a part lies within the texts. -/
def partOk (L : List ByteArray) (p : T3) : Bool := decide (0 ≤ p.1 ∧ p.1 < L.length ∧ 0 ≤ p.2.1 ∧ p.2.1 ≤ p.2.2 ∧ p.2.2 ≤ (L.getD p.1.toNat ByteArray.empty).size)
def allOk (L : List ByteArray) (x : List T3) : Bool := x.all (partOk L)
/-- All parts, one behind the other. -/
def taken (L : List ByteArray) (x : List T3) : ByteArray := x.foldl (fun t p => t ++ piece L p) ByteArray.empty
theorem taken_snoc (L : List ByteArray) (x : List T3) (p : T3) : taken L (x ++ [p]) = taken L x ++ piece L p := by simp [taken]
theorem taken_take {L : List ByteArray} {x : List T3} {k : Nat} {p : T3} (h : x[k]? = some p) : taken L (x.take (k + 1)) = taken L (x.take k) ++ piece L p := by
  obtain ⟨hk, rfl⟩ := List.getElem?_eq_some_iff.1 h
  rw [List.take_succ_eq_append_getElem hk, taken_snoc]
theorem piece_size {L : List ByteArray} {M : Nat} (hM : ∀ s ∈ L, s.size ≤ M) (p : T3) : (piece L p).size ≤ M := by
  unfold piece
  rw [ByteArray.size_extract]
  have : (L.getD p.1.toNat ByteArray.empty).size ≤ M := by
    by_cases h : p.1.toNat < L.length
    · rw [← List.getElem_eq_getD (h := h)]; exact hM _ (List.getElem_mem h)
    · rw [List.getD, List.getElem?_eq_none (by omega)]; simp
  omega
theorem taken_size {L : List ByteArray} {M : Nat} (hM : ∀ s ∈ L, s.size ≤ M) (x : List T3) : (taken L x).size ≤ x.length * M := by
  have h : ∀ (x : List T3) (t : ByteArray), (x.foldl (fun t p => t ++ piece L p) t).size ≤ t.size + x.length * M := by
    intro x
    induction x with
    | nil => intro t; simp
    | cons p x ih =>
      intro t
      have h1 := ih (t ++ piece L p)
      rw [ByteArray.size_append] at h1
      have h2 := piece_size hM p
      rw [List.foldl_cons, List.length_cons, Nat.add_mul, Nat.one_mul]
      omega
  have := h x ByteArray.empty
  simpa [taken] using this
theorem partOk_nat {L : List ByteArray} {p : T3} (h : partOk L p = true) : ∃ a b c : Nat, p = ((a : Int), (b : Int), (c : Int)) ∧ ∃ s, L[a]? = some s ∧ b ≤ c ∧ c ≤ s.size ∧ piece L p = s.extract b c := by
  obtain ⟨x, y, z⟩ := p
  simp only [partOk, decide_eq_true_eq] at h
  obtain ⟨h1, h2, h3, h4, h5⟩ := h
  refine ⟨x.toNat, y.toNat, z.toNat, by simp; omega, L[x.toNat]'(by omega), List.getElem?_eq_getElem _, by omega, ?_, ?_⟩
  · rw [← List.getElem_eq_getD (h := by omega)] at h5; omega
  · simp only [piece]; rw [← List.getElem_eq_getD (h := by omega)]
theorem allOk_get {L : List ByteArray} {x : List T3} (h : allOk L x = true) {k : Nat} {p : T3} (hp : x[k]? = some p) : partOk L p = true := by
  exact List.all_eq_true.1 h p (List.mem_of_getElem? hp)
theorem allOk_take {L : List ByteArray} {x : List T3} {k : Nat} {p : T3} (h : x[k]? = some p) : allOk L (x.take (k + 1)) = (allOk L (x.take k) && partOk L p) := by
  obtain ⟨hk, rfl⟩ := List.getElem?_eq_some_iff.1 h
  rw [List.take_succ_eq_append_getElem hk]
  simp only [allOk, List.all_append, List.all_cons, List.all_nil, Bool.and_true]
theorem allOk_bad {L : List ByteArray} {x : List T3} {k : Nat} {p : T3} (h : x[k]? = some p) (hp : partOk L p = false) : allOk L x = false := by
  cases h1 : allOk L x
  · rfl
  · rw [← hp, allOk_get h1 h]
def takeS (L : List ByteArray) (x : List T3) : ByteArray := if allOk L x then taken L x else ByteArray.empty
def takeE (L : List ByteArray) (x : List T3) : Int := if allOk L x then 0 else 1
theorem bytes_append (a b : ByteArray) : (a ++ b).data.toList = a.data.toList ++ b.data.toList := by simp [ByteArray.data_append]
theorem append_empty_bytes (L : List ByteArray) : taken L [] = ByteArray.empty := rfl

/-- Texts that came in, as a row of texts. -/
theorem strsIn_of {w : World} {v : Value} {ss : List ByteArray} (h : TextsIn w v ss) : StrsIn w v ss := by
  obtain ⟨p, cap, rfl, _, _, hS⟩ := h
  refine ⟨by simp, p, cap, rfl, fun hn => ?_⟩
  obtain ⟨b, o, rfl, hlt, _⟩ := hS.2 0 hn
  refine ⟨b, o, rfl, hlt, fun j u hu => ?_⟩
  have hj : j < ss.length := by simpa using (List.getElem?_eq_some_iff.1 hu).1
  obtain ⟨b', o', e, _, hc⟩ := hS.2 j hj
  cases e
  simp [hj] at hu
  rw [← hu, hc]
  simp [List.getD, hj]

set_option maxRecDepth 100000 in
set_option maxHeartbeats 2000000 in
theorem took_yes (va vb : Value) (L : List ByteArray) (x : List T3) (w : World) (ha : StrsIn w va L) (hb : ThreesIn w vb x) (hok : allOk L x = true) (hM : ∀ s ∈ L, s.size ≤ 4000) (hx : x.length ≤ 4000) :
    Calls Try.prog 19 #[va, vb] w fun e w' => e = .returned (.string (taken L x)) ∧ Below w.heap.size w w' := by
  have HA := Lib.hid ha
  have HB := Lib.hid hb
  have HO := Lib.hid hok
  have HM := Lib.hid hM
  obtain ⟨Aa, ka, rfl⟩ := ha.len
  obtain ⟨Ab, kb, rfl⟩ := hb.len
  clear ha hb hok hM
  go_enter Try.func19, Try.ntmps19
  go_wp2_with fail
  go_loopw [5, 6] (fun t i wr => ∃ (k : Nat) (T : ByteArray), i = .int .i64 k ∧ t = .string T ∧ Hid (T = taken L (x.take k)) ∧ k ≤ x.length ∧ Below w.heap.size w wr) (fun _ i _ => x.length - (intOf i).toNat)
  case atStart => exact ⟨0, _, rfl, rfl, rfl, by omega, Below.refl _ _⟩
  case round =>
    obtain ⟨k, T, rfl, rfl, HT, hk, hwr⟩ := hrel
    by_cases hlt : k < x.length
    · obtain ⟨bb, ob, cb, eb, p, hp, b0, b1, b2⟩ := (HB.out.below hwr).at_ hlt
      cases eb
      obtain ⟨a, lo, hi, rfl, s, hs, h1, h2, hpc⟩ := partOk_nat (allOk_get HO.out hp)
      simp only at b0 b1 b2
      have haL : a < L.length := (List.getElem?_eq_some_iff.1 hs).1
      obtain ⟨ba, oa, ca, ea, s', hs', a0⟩ := (HA.out.below hwr).at_ haL
      rw [hs] at hs'
      cases hs'
      cases ea
      have hT1 : T.size ≤ 16000000 := by
        rw [HT.out]
        have := taken_size HM.out (x.take k)
        rw [List.length_take] at this
        have h4 : min k x.length * 4000 ≤ 4000 * 4000 := Nat.mul_le_mul_right _ (by omega)
        omega
      have hs1 : s.size ≤ 4000 := HM.out s (List.mem_of_getElem? hs)
      have hp1 : (s.extract lo hi).size ≤ 4000 := by rw [ByteArray.size_extract]; omega
      have i0 : (0 : Int) ≤ (a : Int) := by omega
      have i1 : (a : Int) < (L.length : Int) := by omega
      have i2 : (0 : Int) ≤ (lo : Int) := by omega
      have i3 : (lo : Int) ≤ (hi : Int) := by omega
      have i4 : (hi : Int) ≤ (s.size : Int) := by omega
      have HP := Lib.hid hpc
      clear hpc
      go_wp2_with fail
      go_quiet (fail)
      all_goals
        go_wp2_with fail
        go_roundw
        case rel => exact ⟨k + 1, _, by go_num, rfl, by rw [Hid, taken_take hp, HP.out, HT.out], by omega, below_drewN hwr _⟩
        case measure => simp [intOf]; omega
    · go_wp2_with fail
      go_ret
      have := HT.out
      rw [List.take_of_length_le (by omega)] at this
      subst this
      exact ⟨rfl, hwr⟩
end Go.Proofs.Ytgbgignnjpcncaa
