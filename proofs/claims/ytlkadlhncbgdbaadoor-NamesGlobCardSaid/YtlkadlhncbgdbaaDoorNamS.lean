/- Patterns: the code's matching: the walks. -/
import Derived.Test.YtlkadlhncbgdbaaDoorNamI
import Derived.Test.YtlkadlhncbgdbaaDoorNamR
import Derived.BigRegion
namespace Go.Proofs.YtlkadlhncbgdbaaDoor
open Go.ChangeShapes Go.WideShapes Go.ChangeAt Go.RowKit Go.Joins
set_option linter.unusedVariables false
set_option linter.unusedSimpArgs false

/-- A block of bools that may be written: the first n + 1 cells are told by f. -/
def BoolBlk (w : World) (B : Nat) (f : Nat → Bool) (n : Nat) : Prop := ∀ i, i ≤ n → w.cell? ⟨B, i, none⟩ = some (.bool (f i)) ∧ w.frozen? ⟨B, i, none⟩ = false
theorem BoolBlk.next {w : World} {B n k : Nat} {f g : Nat → Bool} (h : BoolBlk w B f n) (v : Bool) (hk : g k = v) (ho : ∀ i, i ≠ k → g i = f i) : BoolBlk (w.setCell ⟨B, k, none⟩ (.bool v)) B g n := by
  intro i hi
  obtain ⟨h1, h2⟩ := h i hi
  by_cases e : k = i
  · subst e
    exact ⟨by rw [World.cell?_setCell_same' _ _ _ (by rw [h1]; rfl), hk], by rw [World.frozen?_setCell]; exact h2⟩
  · exact ⟨by rw [World.cell?_setCell_other _ _ _ _ (by simp [e]), ho i (fun h => e h.symm)]; exact h1, by rw [World.frozen?_setCell]; exact h2⟩
theorem BoolBlk.same {w : World} {B n : Nat} {f g : Nat → Bool} (h : BoolBlk w B f n) (ho : ∀ i, i ≤ n → g i = f i) : BoolBlk w B g n := by
  intro i hi
  rw [ho i hi]; exact h i hi
theorem BoolBlk.drew {w : World} {B n : Nat} {f : Nat → Bool} (h : BoolBlk w B f n) : BoolBlk w.drew B f n := h
def okOf (all : Bool) : UInt8 → Bool := if all then okAll else okIn
/-- What is reached while so many bytes have been looked at. -/
def overTo (ok : UInt8 → Bool) (l : List UInt8) (f : Nat → Bool) (k i : Nat) : Bool := if i ≤ k then stepOver ok l f i else f i

set_option maxRecDepth 100000 in
set_option maxHeartbeats 2000000 in
theorem over_any (B0 B : Nat) (s : ByteArray) (all : Bool) (f : Nat → Bool) (w : World) (hB : B0 ≤ B) (hs : s.size ≤ 1000000) (h : BoolBlk w B f s.size) :
    Calls Tryd.prog 28 #[.slice (some ⟨B, 0, none⟩) (s.size + 1) (s.size + 1), .string s, .bool all] w fun e w' => e = .returned (.tuple #[]) ∧ BoolBlk w' B (stepOver (okOf all) s.data.toList f) s.size ∧ Below B0 w w' := by
  have HS0 := Lib.hid h
  clear h
  go_enter Tryd.func28, Tryd.ntmps28
  go_wp2_with fail
  go_loopw [9] (fun i wr => ∃ k : Nat, i = .int .i64 k ∧ k ≤ s.size ∧ Hid (BoolBlk wr B (overTo (okOf all) s.data.toList f k) s.size) ∧ Hid (Below B0 w wr)) (fun i _ => s.size - (intOf i).toNat)
  case atStart =>
    refine ⟨0, rfl, by omega, HS0.out.same (fun i hi => ?_), Below.refl _ _⟩
    unfold overTo
    split
    · obtain rfl : i = 0 := by omega
      rfl
    · rfl
  case round =>
    clear HS0
    obtain ⟨k, rfl, hk, HS, HB⟩ := hrel
    by_cases hlt : k < s.size
    · obtain ⟨c1, _⟩ := HS.out k (by omega)
      obtain ⟨c2, c3⟩ := HS.out (k + 1) (by omega)
      have hk1 : overTo (okOf all) s.data.toList f k k = stepOver (okOf all) s.data.toList f k := by unfold overTo; rw [if_pos (Nat.le_refl _)]
      have hc : s.data.toList.getD k 0 = s[k] := by rw [List.getD, str_get hlt]; rfl
      have HNX : Hid (∀ i, i ≠ k + 1 → overTo (okOf all) s.data.toList f (k + 1) i = overTo (okOf all) s.data.toList f k i) := by
        intro i hi
        unfold overTo
        by_cases h1 : i ≤ k
        · rw [if_pos h1, if_pos (by omega)]
        · rw [if_neg h1, if_neg (by omega)]
      have HAT : Hid (overTo (okOf all) s.data.toList f (k + 1) (k + 1) = (overTo (okOf all) s.data.toList f k (k + 1) || (overTo (okOf all) s.data.toList f k k && okOf all s[k]))) := by
        rw [Hid, hk1]
        unfold overTo
        rw [if_pos (Nat.le_refl _), if_neg (by omega), ← hc]
        rfl
      have hok : okOf all s[k] = (all || (decide (s[k].toNat ≠ 47) && decide (s[k].toNat ≠ 58))) := by unfold okOf; cases all <;> rfl
      rw [hok] at HAT
      obtain ⟨c, hcc⟩ : ∃ c, s[k].toNat = c := ⟨_, rfl⟩
      rw [hcc] at HAT
      obtain ⟨g, hg⟩ : ∃ g, overTo (okOf all) s.data.toList f (k + 1) = g := ⟨_, rfl⟩
      rw [hg] at HAT HNX
      have HGG := Lib.hid hg
      clear hg hk1 hc hok
      obtain ⟨o, ho⟩ : ∃ o, overTo (okOf all) s.data.toList f k = o := ⟨_, rfl⟩
      rw [ho] at HAT HNX HS c1 c2
      clear ho
      obtain ⟨a, ha⟩ : ∃ a, o k = a := ⟨_, rfl⟩
      obtain ⟨b, hb⟩ : ∃ b, o (k + 1) = b := ⟨_, rfl⟩
      rw [ha, hb] at HAT
      rw [ha] at c1
      rw [hb] at c2
      have HS1 : Hid (g (k + 1) = true → BoolBlk (wr.setCell ⟨B, k + 1, none⟩ (.bool true)) B g s.size) := fun e => HS.out.next true e HNX.out
      have HS2 : Hid (g (k + 1) = b → BoolBlk wr B g s.size) := fun e => HS.out.same (fun i _ => by
        by_cases h : i = k + 1
        · subst h; rw [e, hb]
        · exact HNX.out i h)
      have HB1 := Lib.hid (HB.out.setCell (p := ⟨B, k + 1, none⟩) hB (.bool true))
      clear HS HNX ha hb
      have i0 : (0 : Int) ≤ (k : Int) := by omega
      have i1 : (k : Int) < ((s.size + 1 : Nat) : Int) := by omega
      have i2 : (0 : Int) ≤ (k : Int) + 1 := by omega
      have i3 : (k : Int) + 1 < ((s.size + 1 : Nat) : Int) := by omega
      cases a
      · have hgb : g (k + 1) = b := by rw [HAT.out]; simp
        have HF := Lib.hid (HS2.out hgb)
        go_wp2_with fail
        go_roundw
        case rel => exact ⟨k + 1, by go_num, by omega, by rw [HGG.out]; exact HF, HB⟩
        case measure => simp [intOf]; omega
      · cases all
        · by_cases h47 : c = 47
          · have d1 : ((c : Int) != 47) = false := by rw [h47]; rfl
            have HF := Lib.hid (HS2.out (by rw [HAT.out]; simp [h47]))
            go_wp2_with fail
            go_roundw
            case rel => exact ⟨k + 1, by go_num, by omega, by rw [HGG.out]; exact HF, HB⟩
            case measure => simp [intOf]; omega
          · by_cases h58 : c = 58
            · have d1 : ((c : Int) != 47) = true := bne_iff_ne.2 (by omega)
              have d2 : ((c : Int) != 58) = false := by rw [h58]; rfl
              have HF := Lib.hid (HS2.out (by rw [HAT.out]; simp [h58]))
              go_wp2_with fail
              go_roundw
              case rel => exact ⟨k + 1, by go_num, by omega, by rw [HGG.out]; exact HF, HB⟩
              case measure => simp [intOf]; omega
            · have d1 : ((c : Int) != 47) = true := bne_iff_ne.2 (by omega)
              have d2 : ((c : Int) != 58) = true := bne_iff_ne.2 (by omega)
              have HF := Lib.hid (HS1.out (by rw [HAT.out]; simp [h47, h58]))
              go_wp2_with fail
              go_roundw
              case rel => exact ⟨k + 1, by go_num, by omega, by rw [HGG.out]; exact HF, HB1⟩
              case measure => simp [intOf]; omega
        · have HF := Lib.hid (HS1.out (by rw [HAT.out]; simp))
          go_wp2_with fail
          go_roundw
          case rel => exact ⟨k + 1, by go_num, by omega, by rw [HGG.out]; exact HF, HB1⟩
          case measure => simp [intOf]; omega
    · have hke : k = s.size := by omega
      have HF : Hid (BoolBlk wr B (stepOver (okOf all) s.data.toList f) s.size) := HS.out.same (fun i hi => by unfold overTo; rw [if_pos (by omega)])
      clear HS
      go_wp2_with fail
      first
        | (refine bodyPost_ret (results_none rfl _ _ _) rfl ?_; exact ⟨rfl, HF.out, HB.out⟩)
        | (go_end0; exact ⟨rfl, HF.out, HB.out⟩)
end Go.Proofs.YtlkadlhncbgdbaaDoor
