/- Whether lanes may be: the code's way and the page's, walked. -/
import Derived.Test.YtibinkppbdeofaaTextRow
import Derived.Test.YtibinkppbdeofaaClose
namespace Go.Proofs.Ytibinkppbdeofaa
open Go.ChangeShapes Go.WideShapes Go.ChangeAt Go.RowKit Go.Joins
set_option linter.unusedVariables false
set_option linter.unusedSimpArgs false

/-- What is wrong with some lanes. -/
def mayGo (f : Nat) : List ByteArray → Int → Int
  | [], e => e
  | s :: r, e => if 8192 < s.size then 2 else mayGo f r (if s.size = f then e else 1)
def mayN (L : List ByteArray) : Int := mayGo (L.getD 0 ByteArray.empty).size L 0

set_option maxRecDepth 100000 in
set_option maxHeartbeats 1000000 in
theorem may_any (v : Value) (L : List ByteArray) (w : World) (h : Strs6 w v L) (hl : L.length ≤ 100000) :
    Calls Try.prog 52 #[v] w fun e w' => e = .returned (.int .i64 (mayN L)) ∧ Below w.heap.size w w' := by
  obtain ⟨A, cap, rfl⟩ := h.shape
  have HR := Lib.hid h
  clear h
  go_enter Try.func52, Try.ntmps52
  go_wp2_with fail
  go_loopw [3, 8] (fun x i wr => ∃ (k : Nat) (ev : Int), i = .int .i64 k ∧ x = .int .i64 ev ∧ k ≤ L.length ∧ Hid (mayGo (L.getD 0 ByteArray.empty).size (L.drop k) ev = mayN L) ∧ Below w.heap.size w wr) (fun _ i _ => L.length - (intOf i).toNat)
  case atStart => exact ⟨0, 0, rfl, rfl, by omega, rfl, Below.refl _ _⟩
  case round =>
    obtain ⟨k, ev, rfl, rfl, hk, HM, hwr⟩ := hrel
    by_cases hlt : k < L.length
    · obtain ⟨b, o, rfl, hbl, hcell⟩ := (HR.out.below hwr).at_ hlt
      obtain ⟨b', o', eA, _, hcell0⟩ := (HR.out.below hwr).at_ (k := 0) (by omega)
      cases eA
      rw [Nat.add_zero] at hcell0
      obtain ⟨s, hs⟩ : ∃ s, s = L[k]'hlt := ⟨_, rfl⟩
      obtain ⟨f, hf⟩ : ∃ f, f = L[0]'(by omega) := ⟨_, rfl⟩
      rw [← hs] at hcell
      rw [← hf] at hcell0
      have hM := HM.out
      rw [List.drop_eq_getElem_cons hlt, ← hs, ← List.getElem_eq_getD (h := (by omega : 0 < L.length)), ← hf, mayGo] at hM
      have i0 : (0 : Int) ≤ (k : Int) := by omega
      have i1 : (k : Int) < (L.length : Int) := by omega
      have i2 : (0 : Int) < (L.length : Int) := by omega
      clear hs HM
      by_cases h8 : 8192 < s.size
      · rw [if_pos h8] at hM
        have HN := Lib.hid hM
        clear hM hf
        have hd : decide ((8192 : Int) < (s.size : Int)) = true := by simp; omega
        go_wp2_with fail
        go_ret
        exact ⟨by rw [← HN.out]; rfl, hwr⟩
      · rw [if_neg h8] at hM
        have hd : decide ((8192 : Int) < (s.size : Int)) = false := by simp; omega
        have hff : (L.getD 0 ByteArray.empty).size = f.size := by rw [hf, ← List.getElem_eq_getD (h := (by omega : 0 < L.length))]
        by_cases he : s.size = f.size
        · rw [if_pos he] at hM
          have HN : Hid (mayGo (L.getD 0 ByteArray.empty).size (L.drop (k + 1)) ev = mayN L) := by rw [Hid, hff]; exact hM
          have hne : ((s.size : Int) != (f.size : Int)) = false := by rw [he]; simp
          clear hM hf hff he
          go_wp2_with fail
          go_roundw
          case rel => exact ⟨k + 1, _, by go_num, rfl, by omega, HN, hwr⟩
          case measure => simp [intOf]; omega
        · rw [if_neg he] at hM
          have HN : Hid (mayGo (L.getD 0 ByteArray.empty).size (L.drop (k + 1)) 1 = mayN L) := by rw [Hid, hff]; exact hM
          have hne : ((s.size : Int) != (f.size : Int)) = true := by rw [bne_iff_ne]; omega
          clear hM hf hff he
          go_wp2_with fail
          go_roundw
          case rel => exact ⟨k + 1, _, by go_num, rfl, by omega, HN, hwr⟩
          case measure => simp [intOf]; omega
    · have hke : k = L.length := by omega
      have hM := HM.out
      rw [hke, List.drop_length, mayGo] at hM
      have HN := Lib.hid hM
      clear hke hM
      go_wp2_with fail
      all_goals
        go_ret
        exact ⟨by rw [← HN.out]; rfl, hwr⟩

set_option maxRecDepth 100000 in
set_option maxHeartbeats 1000000 in
theorem refLanes_any (v : Value) (L : List ByteArray) (w : World) (h : Strs6 w v L) (hl : L.length ≤ 100000) :
    Calls Try.prog 33 #[v] w fun e w' => e = .returned (.int .i64 (mayN L)) ∧ Below w.heap.size w w' := by
  obtain ⟨A, cap, rfl⟩ := h.shape
  have HR := Lib.hid h
  clear h
  go_enter Try.func33, Try.ntmps33
  go_wp2_with fail
  go_loopw [3, 4] (fun x i wr => ∃ (k : Nat) (ev : Int), i = .int .i64 k ∧ x = .int .i64 ev ∧ k ≤ L.length ∧ Hid (mayGo (L.getD 0 ByteArray.empty).size (L.drop k) ev = mayN L) ∧ Below w.heap.size w wr) (fun _ i _ => L.length - (intOf i).toNat)
  case atStart => exact ⟨0, 0, rfl, rfl, by omega, rfl, Below.refl _ _⟩
  case round =>
    obtain ⟨k, ev, rfl, rfl, hk, HM, hwr⟩ := hrel
    by_cases hlt : k < L.length
    · obtain ⟨b, o, rfl, hbl, hcell⟩ := (HR.out.below hwr).at_ hlt
      obtain ⟨b', o', eA, _, hcell0⟩ := (HR.out.below hwr).at_ (k := 0) (by omega)
      cases eA
      rw [Nat.add_zero] at hcell0
      obtain ⟨s, hs⟩ : ∃ s, s = L[k]'hlt := ⟨_, rfl⟩
      obtain ⟨f, hf⟩ : ∃ f, f = L[0]'(by omega) := ⟨_, rfl⟩
      rw [← hs] at hcell
      rw [← hf] at hcell0
      have hM := HM.out
      rw [List.drop_eq_getElem_cons hlt, ← hs, ← List.getElem_eq_getD (h := (by omega : 0 < L.length)), ← hf, mayGo] at hM
      have i0 : (0 : Int) ≤ (k : Int) := by omega
      have i1 : (k : Int) < (L.length : Int) := by omega
      have i2 : (0 : Int) < (L.length : Int) := by omega
      clear hs HM
      by_cases h8 : 8192 < s.size
      · rw [if_pos h8] at hM
        have HN := Lib.hid hM
        clear hM hf
        have hd : decide ((8192 : Int) < (s.size : Int)) = true := by simp; omega
        go_wp2_with fail
        go_ret
        exact ⟨by rw [← HN.out]; rfl, hwr⟩
      · rw [if_neg h8] at hM
        have hd : decide ((8192 : Int) < (s.size : Int)) = false := by simp; omega
        have hff : (L.getD 0 ByteArray.empty).size = f.size := by rw [hf, ← List.getElem_eq_getD (h := (by omega : 0 < L.length))]
        by_cases he : s.size = f.size
        · rw [if_pos he] at hM
          have HN : Hid (mayGo (L.getD 0 ByteArray.empty).size (L.drop (k + 1)) ev = mayN L) := by rw [Hid, hff]; exact hM
          have hne : ((s.size : Int) != (f.size : Int)) = false := by rw [he]; simp
          clear hM hf hff he
          go_wp2_with fail
          go_quiet (fail)
          all_goals
            go_wp2_with fail
            go_roundw
            case rel => exact ⟨k + 1, _, by go_num, rfl, by omega, HN, below_drewN hwr _⟩
            case measure => simp [intOf]; omega
        · rw [if_neg he] at hM
          have HN : Hid (mayGo (L.getD 0 ByteArray.empty).size (L.drop (k + 1)) 1 = mayN L) := by rw [Hid, hff]; exact hM
          have hne : ((s.size : Int) != (f.size : Int)) = true := by rw [bne_iff_ne]; omega
          clear hM hf hff he
          go_wp2_with fail
          go_quiet (fail)
          all_goals
            go_wp2_with fail
            go_roundw
            case rel => exact ⟨k + 1, _, by go_num, rfl, by omega, HN, below_drewN hwr _⟩
            case measure => simp [intOf]; omega
    · have hke : k = L.length := by omega
      have hM := HM.out
      rw [hke, List.drop_length, mayGo] at hM
      have HN := Lib.hid hM
      clear hke hM
      go_wp2_with fail
      all_goals
        go_ret
        exact ⟨by rw [← HN.out]; rfl, hwr⟩
end Go.Proofs.Ytibinkppbdeofaa
