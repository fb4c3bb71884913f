/- Digests of texts and how many blocks they take, walked; that the statements wake. -/
import Derived.Test.YtnpngkbcfkolnaaDigG
import Derived.WalkLawsBesides
namespace Go.Proofs.Ytnpngkbcfkolnaa
open Go.ChangeShapes Go.WideShapes Go.ChangeAt Go.RowKit Go.Joins
set_option linter.unusedVariables false
set_option linter.unusedSimpArgs false

set_option maxRecDepth 100000 in
set_option maxHeartbeats 400000 in
theorem of_any (T : ByteArray) (w : World) (hb : T.size ≤ 1000000) :
    Calls Try.prog 9 #[.string T] w fun e w' => e = .returned (.string (digestS T)) ∧ Below w.heap.size w w' := by
  go_enter Try.func9, Try.ntmps9
  go_wp2_with fail
  refine (new_any _).mono ?_
  rintro e w1 ⟨g, rfl, hg, hh, hb1⟩
  have HH := Lib.hid hh
  have HB := Lib.hid hb1
  clear hh hb1
  go_wp2_with fail
  refine (write_any g ByteArray.empty T _ HH.out (by simp; omega)).mono ?_
  rintro e w2 ⟨rfl, hh, hk⟩
  rw [ByteArray.empty_append] at hh
  have HH2 := Lib.hid hh
  have HB2 := Lib.hid (HB.out.trans (hk.below HB.out.size (fun k hk' e => by subst e; omega)))
  clear hh hk HB HH
  go_wp2_with fail
  refine (sum_any g T _ HH2.out hb).mono ?_
  rintro e w3 ⟨rfl, hb3⟩
  have hx := HB2.out.trans (hb3.mono HB2.out.size)
  clear hb3
  go_wp2_with fail
  go_ret
  exact ⟨rfl, hx⟩

/-- How many blocks so many bytes take. -/
def blocksN (n : Nat) : Int := max 1 (((n : Int) + 63) / 64)
set_option maxRecDepth 100000 in
set_option maxHeartbeats 400000 in
theorem rows_any (T : ByteArray) (w : World) (hb : T.size ≤ 1000000) :
    Calls Try.prog 12 #[.string T] w fun e w' => e = .returned (.int .i64 (blocksN T.size)) ∧ w = w' := by
  go_enter Try.func12, Try.ntmps12
  go_wp2_with fail
  go_ret
  have e : (T.size : Int) + 63 = (T.size : Int) + 64 - 1 := by omega
  exact ⟨by unfold blocksN; rw [e]; rfl, rfl⟩
set_option maxRecDepth 100000 in
set_option maxHeartbeats 400000 in
theorem refBlocks_any (T : ByteArray) (w : World) (hb : T.size ≤ 1000000) :
    Calls Try.prog 13 #[.string T] w fun e w' => e = .returned (.int .i64 (blocksN T.size)) ∧ w = w' := by
  go_enter Try.func13, Try.ntmps13
  go_wp2_with fail
  go_ret
  exact ⟨rfl, rfl⟩

theorem digestS_size (T : ByteArray) : (digestS T).size = 32 := by rw [digestS, strOf8_size, digestB_length]

set_option maxRecDepth 100000 in
set_option maxHeartbeats 400000 in
theorem wakes6_any (w : World) :
    Calls Try.prog 11 #[] w fun e w' => e = .returned (.bool true) ∧ Below w.heap.size w w' := by
  have h1 : (digestS ⟨#[]⟩).size = 32 := digestS_size _
  have h2 : ((digestS ⟨#[]⟩).extract 0 4) = ⟨#[105, 33, 122, 48]⟩ := digest_empty
  obtain ⟨D, hD⟩ : ∃ D, D = digestS ⟨#[]⟩ := ⟨_, rfl⟩
  rw [← hD] at h1 h2
  have HD := Lib.hid hD
  clear hD
  go_enter Try.func11, Try.ntmps11
  go_wp2_with fail
  refine (of_any _ _ (by decide)).mono ?_
  rintro e w1 ⟨rfl, hb1⟩
  rw [← HD.out]
  have HB := Lib.hid hb1
  clear hb1
  go_wp2_with fail
  go_ret
  exact ⟨rfl, HB.out⟩
end Go.Proofs.Ytnpngkbcfkolnaa
