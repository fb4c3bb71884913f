/- Names: the whole of a name; its parts: the walks. -/
import Derived.Test.YtlkadlhncbgdbaaDoorNamG
namespace Go.Proofs.YtlkadlhncbgdbaaDoor
open Go.ChangeShapes Go.WideShapes Go.ChangeAt Go.RowKit Go.Joins
set_option linter.unusedVariables false
set_option linter.unusedSimpArgs false

/-- A name's whole, as long as it may be. -/
def wholeS (s : ByteArray) : ByteArray := nameA s ++ ⟨#[58]⟩ ++ nameV s
def fullS (s : ByteArray) : ByteArray := if nameOk s.data.toList then (if (wholeS s).size ≤ 40 then wholeS s else ⟨#[]⟩) else ⟨#[]⟩
def fullE (s : ByteArray) : Int := if nameOk s.data.toList then (if (wholeS s).size ≤ 40 then 0 else 2) else 7
theorem fullE_bd (s : ByteArray) : fullE s = 0 ∨ fullE s = 2 ∨ fullE s = 7 := by unfold fullE; split; split <;> simp; simp

theorem strL_size (l : List UInt8) : (strL l).size = l.length := by
  have h := str_len (strL l)
  rw [data_strL] at h
  exact h.symm
theorem nameOk_len {l : List UInt8} (h : nameOk l = true) : l.length ≤ 40 := by
  unfold nameOk at h
  rw [Bool.and_eq_true] at h
  exact of_decide_eq_true h.1
theorem nameA_size (s : ByteArray) : (nameA s).size ≤ 40 := by
  unfold nameA
  split
  · rename_i h
    have := nameOk_len h
    rw [strL_size]; unfold headL; rw [List.length_take]; omega
  · decide
theorem nameV_size (s : ByteArray) : (nameV s).size ≤ 40 := by
  unfold nameV
  split
  · rename_i h
    have := nameOk_len h
    rw [strL_size]; unfold verOf
    split
    · rw [List.length_drop]; omega
    · decide
  · decide

set_option maxRecDepth 100000 in
set_option maxHeartbeats 1000000 in
theorem full_any (s : ByteArray) (w : World) (hs : s.size ≤ 1000000) (hm : MaxW w) :
    Calls Tryd.prog 10 #[.string s] w fun e w' => e = .returned (.tuple #[.string (fullS s), .int .i64 (fullE s)]) ∧ Below w.heap.size w w' := by
  have HM := Lib.hid hm
  clear hm
  obtain ⟨q, hq⟩ : ∃ q, nameOk s.data.toList = q := ⟨_, rfl⟩
  have HE : Hid (fullE s = if q then (if (wholeS s).size ≤ 40 then 0 else 2) else 7) := by rw [← hq]; rfl
  have HS : Hid (fullS s = if q then (if (wholeS s).size ≤ 40 then wholeS s else ⟨#[]⟩) else ⟨#[]⟩) := by rw [← hq]; rfl
  have he : nameE s = if q then 0 else 7 := by rw [← hq]; rfl
  clear hq
  cases q
  · have he' : nameE s = 7 := he
    clear he
    go_enter Tryd.func10, Tryd.ntmps10
    go_wp2_with (go_at_call 15; refine (nameSplit_any _ _ hs HM.out).mono ?_; rintro e w' ⟨rfl, hb⟩; rw [he'])
    go_ret2
    exact ⟨by rw [HE.out, HS.out]; rfl, hb⟩
  · have he' : nameE s = 0 := he
    clear he
    have hW : nameA s ++ ⟨#[58]⟩ ++ nameV s = wholeS s := rfl
    have b1 := nameA_size s
    have b2 := nameV_size s
    have b3 : (nameA s ++ ⟨#[58]⟩).size ≤ 41 := by rw [ByteArray.size_append]; have : (⟨#[58]⟩ : ByteArray).size = 1 := rfl; omega
    go_enter Tryd.func10, Tryd.ntmps10
    by_cases hl : (wholeS s).size ≤ 40
    · have hd : decide (40 < ((wholeS s).size : Int)) = false := by simp; omega
      have HL := Lib.hid hl
      clear hl
      go_wp2_with (go_at_call 15; refine (nameSplit_any _ _ hs HM.out).mono ?_; rintro e w' ⟨rfl, hb⟩; rw [he'])
      go_ret2
      exact ⟨by rw [HE.out, HS.out, if_pos trivial, if_pos trivial, if_pos HL.out, if_pos HL.out]; rfl, hb⟩
    · have hd : decide (40 < ((wholeS s).size : Int)) = true := by simp; omega
      have HL := Lib.hid hl
      clear hl
      go_wp2_with (go_at_call 15; refine (nameSplit_any _ _ hs HM.out).mono ?_; rintro e w' ⟨rfl, hb⟩; rw [he'])
      go_ret2
      exact ⟨by rw [HE.out, HS.out, if_pos trivial, if_pos trivial, if_neg HL.out, if_neg HL.out]; rfl, hb⟩
end Go.Proofs.YtlkadlhncbgdbaaDoor
