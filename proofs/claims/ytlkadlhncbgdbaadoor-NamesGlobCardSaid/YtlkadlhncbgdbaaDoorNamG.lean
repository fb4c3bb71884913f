/- Names: what the exported functions answer; the statements' small helpers. -/
import Derived.Test.YtlkadlhncbgdbaaDoorNamF
namespace Go.Proofs.YtlkadlhncbgdbaaDoor
open Go.ChangeShapes Go.WideShapes Go.ChangeAt Go.RowKit Go.Joins
set_option linter.unusedVariables false
set_option linter.unusedSimpArgs false

def nameE (s : ByteArray) : Int := if nameOk s.data.toList then 0 else 7
def nameA (s : ByteArray) : ByteArray := if nameOk s.data.toList then strL (headL s.data.toList) else ⟨#[]⟩

set_option maxRecDepth 100000 in
set_option maxHeartbeats 1000000 in
theorem is_any (s : ByteArray) (w : World) (hs : s.size ≤ 1000000) (hm : MaxW w) :
    Calls Tryd.prog 26 #[.string s] w fun e w' => e = .returned (.bool (nameOk s.data.toList)) ∧ Below w.heap.size w w' := by
  have HM := Lib.hid hm
  clear hm
  go_enter Tryd.func26, Tryd.ntmps26
  go_wp2_with (go_at_call 24; refine (split_any _ _ hs HM.out).mono ?_; rintro e w' ⟨a, b, rfl, hab, hb⟩; clear hab)
  go_ret
  exact ⟨rfl, hb⟩

set_option maxRecDepth 100000 in
set_option maxHeartbeats 1000000 in
theorem check_any (s : ByteArray) (w : World) (hs : s.size ≤ 1000000) (hm : MaxW w) :
    Calls Tryd.prog 17 #[.string s] w fun e w' => e = .returned (.int .i64 (nameE s)) ∧ Below w.heap.size w w' := by
  have HM := Lib.hid hm
  clear hm
  obtain ⟨q, hq⟩ : ∃ q, nameOk s.data.toList = q := ⟨_, rfl⟩
  have HE : Hid (nameE s = if q then 0 else 7) := by rw [← hq]; rfl
  go_enter Tryd.func17, Tryd.ntmps17
  cases q
  all_goals
    go_wp2_with (go_at_call 26; refine (is_any _ _ hs HM.out).mono ?_; rintro e w' ⟨rfl, hb⟩; rw [hq])
    go_ret
    exact ⟨by rw [HE.out]; rfl, hb⟩

set_option maxRecDepth 100000 in
set_option maxHeartbeats 1000000 in
theorem nameSplit_any (s : ByteArray) (w : World) (hs : s.size ≤ 1000000) (hm : MaxW w) :
    Calls Tryd.prog 15 #[.string s] w fun e w' => e = .returned (.tuple #[.string (nameA s), .string (nameV s), .int .i64 (nameE s)]) ∧ Below w.heap.size w w' := by
  have HM := Lib.hid hm
  clear hm
  obtain ⟨q, hq⟩ : ∃ q, nameOk s.data.toList = q := ⟨_, rfl⟩
  have HE : Hid (nameE s = if q then 0 else 7) := by rw [← hq]; rfl
  have HA : Hid (nameA s = if q then strL (headL s.data.toList) else ⟨#[]⟩) := by rw [← hq]; rfl
  have HV : Hid (nameV s = if q then strL (verOf s.data.toList) else ⟨#[]⟩) := by rw [← hq]; rfl
  go_enter Tryd.func15, Tryd.ntmps15
  cases q
  · go_wp2_with (go_at_call 24; refine (split_any _ _ hs HM.out).mono ?_; rintro e w' ⟨a, b, rfl, hab, hb⟩; rw [hq])
    go_ret3
    exact ⟨by rw [HE.out, HA.out, HV.out]; rfl, hb⟩
  · go_wp2_with (go_at_call 24; refine (split_any _ _ hs HM.out).mono ?_; rintro e w' ⟨a, b, rfl, hab, hb⟩; rw [hq])
    go_ret3
    obtain ⟨rfl, rfl⟩ := hab hq
    exact ⟨by rw [HE.out, HA.out, HV.out]; rfl, hb⟩

set_option maxRecDepth 100000 in
set_option maxHeartbeats 1000000 in
theorem num_any (i : Int) (w : World) (h0 : -9223372036854775808 ≤ i) (h1 : i ≤ 9223372036854775807) :
    Calls Tryd.prog 11 #[.int .i64 i] w fun e w' => e = .returned (.int .i64 i) ∧ w = w' := by
  have e : IntKind.i64.wrap i = i := by rw [IntWalk.i64_in _ (by omega)]
  go_enter Tryd.func11, Tryd.ntmps11
  go_wp2
  go_ret
  exact ⟨by first | rfl | (rw [e]; rfl) | simp [e], rfl⟩

theorem nameE_bd (s : ByteArray) : nameE s = 0 ∨ nameE s = 7 := by unfold nameE; split <;> simp
theorem nameE_zero (s : ByteArray) : (nameE s == 0) = nameOk s.data.toList := by unfold nameE; cases nameOk s.data.toList <;> rfl

set_option maxRecDepth 100000 in
set_option maxHeartbeats 1000000 in
theorem same_any (s : ByteArray) (w : World) (hs : s.size ≤ 1000000) (hm : MaxW w) :
    Calls Tryd.prog 8 #[.string s] w fun e w' => e = .returned (.bool true) ∧ Below w.heap.size w w' := by
  have HM : Hid (∀ w', Below w.heap.size w w' → MaxW w') := fun w' hb => hm.below hb
  clear hm
  have hz := nameE_zero s
  have hbd := nameE_bd s
  go_enter Tryd.func8, Tryd.ntmps8
  go_wp2_with (first
    | (go_at_call 14; refine (refName_any _ _ (by omega)).mono ?_; rintro e wa ⟨v, rfl, hst, hwa⟩; clear hst)
    | (go_at_call 17; refine (check_any _ _ hs (HM.out _ hwa)).mono ?_; rintro e wb ⟨rfl, hwb⟩)
    | (go_at_call 11; refine (num_any _ _ (by omega) (by omega)).mono ?_; rintro e wc ⟨rfl, rfl⟩))
  go_ret
  exact ⟨by first | rfl | simp | (rw [hz]; simp), hwa.trans (hwb.mono hwa.size)⟩

theorem aSlashB : nameOk ([97, 47, 98] : List UInt8) = true ∧ headL ([97, 47, 98] : List UInt8) = [97, 47, 98] ∧ verOf ([97, 47, 98] : List UInt8) = latestL := by decide +kernel

set_option maxRecDepth 100000 in
set_option maxHeartbeats 1000000 in
theorem wakes_any (w : World) (hm : MaxW w) :
    Calls Tryd.prog 9 #[] w fun e w' => e = .returned (.bool true) ∧ Below w.heap.size w w' := by
  have HM := Lib.hid hm
  clear hm
  obtain ⟨h1, h2, h3⟩ := aSlashB
  have eA : nameA ⟨#[97, 47, 98]⟩ = ⟨#[97, 47, 98]⟩ := by
    unfold nameA
    have : (⟨#[97, 47, 98]⟩ : ByteArray).data.toList = [97, 47, 98] := rfl
    rw [this, h1, h2]; rfl
  have eV : nameV ⟨#[97, 47, 98]⟩ = ⟨#[108, 97, 116, 101, 115, 116]⟩ := by
    unfold nameV
    have : (⟨#[97, 47, 98]⟩ : ByteArray).data.toList = [97, 47, 98] := rfl
    rw [this, h1, h3]; rfl
  have eE : nameE ⟨#[97, 47, 98]⟩ = 0 := by
    unfold nameE
    have : (⟨#[97, 47, 98]⟩ : ByteArray).data.toList = [97, 47, 98] := rfl
    rw [this, h1]; rfl
  clear h1 h2 h3
  go_enter Tryd.func9, Tryd.ntmps9
  go_wp2_with (first
    | (go_at_call 15; refine (nameSplit_any _ _ (by decide) HM.out).mono ?_; rintro e wa ⟨rfl, hwa⟩; rw [eA, eV, eE])
    | (go_at_call 11; refine (num_any _ _ (by omega) (by omega)).mono ?_; rintro e wc ⟨rfl, rfl⟩))
  go_ret
  exact ⟨by first | rfl | simp, hwa⟩
end Go.Proofs.YtlkadlhncbgdbaaDoor
