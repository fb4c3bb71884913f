/- Lists of texts: siloref0.CopyStrings, EqStrings, slices.Equal (seat-free; lines of CdH and CdU). -/
import Derived.Test.YtiminahobifomaaDoorTextRow
import Derived.Test.YtiminahobifomaaDoorEqRow
import Derived.Test.YtiminahobifomaaDoorMatD
import Derived.OrdersHeld
import Derived.Deep.RegionHeld
import Derived.Deep.RegionHeld3
import Derived.Deep.CutBlock
namespace Go.Proofs.YtiminahobifomaaDoor
open Go.ChangeShapes Go.WideShapes Go.ChangeAt Go.RowKit Go.Joins
set_option linter.unusedVariables false
set_option linter.unusedSimpArgs false

set_option maxRecDepth 100000 in
set_option maxHeartbeats 1000000 in
theorem copyStrs6_any (v : Value) (ss : List ByteArray) (w : World) (h : Strs6 w v ss) (hl : ss.length ≤ 6000) :
    Calls Tryd.prog 10 #[v] w fun e w' => ∃ r, e = .returned r ∧ w'.ownsRow w.heap.size 9 1 r ss.length (ss.map Value.string) ∧ Below w.heap.size w w' := by
  obtain ⟨i0, hi, hz0, hz1, hz2⟩ := info_parts infoStr6
  obtain ⟨p, cap, rfl⟩ := h.shape
  have HS := Lib.hid h
  clear h
  go_enter Tryd.func10, Tryd.ntmps10
  go_wp2_with fail
  go_loopw [3, 4] (fun l i wr => ∃ k : Nat, i = .int .i64 k ∧ k ≤ ss.length ∧ wr.ownsRow w.heap.size 9 1 l k ((ss.take k).map Value.string) ∧ Below w.heap.size w wr) (fun _ i _ => ss.length - (intOf i).toNat)
  case atStart => exact ⟨0, rfl, by omega, World.ownsRow_nil _ _ _ _, Below.refl _ _⟩
  case round =>
    obtain ⟨k, rfl, hk, hown, hwr⟩ := hrel
    by_cases hlt : k < ss.length
    · obtain ⟨b, off, rfl, hbl, hcell⟩ := (HS.out.below hwr).at_ hlt
      have HT : Hid (ss.take (k + 1) = ss.take k ++ [ss[k]'hlt]) := List.take_succ_eq_append_getElem hlt
      generalize ss[k]'hlt = s at *
      have j0 : (0 : Int) ≤ (k : Int) := by omega
      have j1 : (k : Int) < (ss.length : Int) := by omega
      go_wp2_with (first | (at_builtin; refine wpList_append_own _ rfl _ _ 23 rfl w.heap.size 9 i0 (.string ByteArray.empty) 1 16 Tryd.underlying23 hi hz0 hz1 hz2 rfl (by decide) _ _ _ rfl (hown.alloc _) ⟨wr.heap.size, 0, none⟩ 1 1 [.string s] rfl rfl ?c1 ?c2 ?c3 ?c4 ?c5 ?_) | go_in)
      case c1 => exact cell_one_new' _ _ _
      case c2 => intro u hu; simp at hu; subst hu; rfl
      case c3 => unfold maxLen; omega
      case c4 => omega
      case c5 => have := hwr.size; simp; omega
      all_goals
        intro v' w1 hown' hgrow _
        have hbx := append_below hwr hown hgrow
        clear hown hgrow hwr hcell
        go_wp2_with fail
        go_roundw
        case rel => exact ⟨k + 1, by go_num, by omega, by rw [HT.out, List.map_append, List.map_take]; exact hown', hbx⟩
        case measure => simp [intOf]; omega
    · have hke : k = ss.length := by omega
      rw [hke, List.take_length] at hown
      clear hke
      go_wp2_with fail
      all_goals
        go_ret
        exact ⟨_, rfl, hown, hwr⟩

set_option maxRecDepth 100000 in
set_option maxHeartbeats 2000000 in
theorem eqStrs6_dec (va vb : Value) (a b : List ByteArray) (w : World) (ha : Strs6 w va a) (hb : Strs6 w vb b) (hm : a.length ≤ 9000000000000000000) (hm' : b.length ≤ 9000000000000000000) :
    Calls Tryd.prog 14 #[va, vb] w fun e w' => e = .returned (.bool (decide (a = b))) ∧ Below w.heap.size w w' := by
  have HA := Lib.hid ha
  have HB := Lib.hid hb
  obtain ⟨Aa, ka, rfl⟩ := ha.shape
  obtain ⟨Ab, kb, rfl⟩ := hb.shape
  clear ha hb
  by_cases hlen : b.length = a.length
  · rw [hlen]
    have HL := Lib.hid hlen
    clear hlen hm'
    have hd : ((a.length : Int) == (a.length : Int)) = true := by simp
    go_enter Tryd.func14, Tryd.ntmps14
    go_wp2_with fail
    go_loopw [5] (fun i wr => ∃ k : Nat, i = .int .i64 k ∧ k ≤ a.length ∧ Hid (a.take k = b.take k) ∧ Below w.heap.size w wr) (fun i _ => a.length - (intOf i).toNat)
    case atStart => exact ⟨0, rfl, by omega, rfl, Below.refl _ _⟩
    case round =>
      obtain ⟨k, rfl, hk, HK, hwr⟩ := hrel
      by_cases hlt : k < a.length
      · have hltb : k < b.length := by rw [HL.out]; exact hlt
        obtain ⟨ba, oa, rfl, _, a0⟩ := (HA.out.below hwr).at_ hlt
        obtain ⟨bb, ob, rfl, _, b0⟩ := (HB.out.below hwr).at_ hltb
        have HT : Hid (a[k]'hlt = b[k]'hltb → a.take (k + 1) = b.take (k + 1)) := fun h => by
          rw [List.take_succ_eq_append_getElem hlt, List.take_succ_eq_append_getElem hltb, HK.out, h]
        have HN : Hid (a[k]'hlt ≠ b[k]'hltb → decide (a = b) = false) := fun h => by
          refine decide_eq_false (fun e => h ?_)
          subst e
          rfl
        have j0 : (0 : Int) ≤ (k : Int) := by omega
        have j1 : (k : Int) < (a.length : Int) := by omega
        generalize a[k]'hlt = s at *
        generalize b[k]'hltb = t at *
        clear hltb
        by_cases hst : s = t
        · have HT1 := Lib.hid (HT.out hst)
          subst hst
          go_wp2_with fail
          go_quiet (fail)
          all_goals
            go_wp2_with fail
            go_roundw
            case rel => exact ⟨k + 1, by go_num, by omega, HT1, below_drewN hwr _⟩
            case measure => simp [intOf]; omega
        · have HF := Lib.hid (HN.out hst)
          have hs1 : (s.toList == t.toList) = false := by rw [beq_eq_false_iff_ne, ByteArray.toList_eq, ByteArray.toList_eq]; exact fun e => hst (ByteArray.ext (Array.toList_inj.1 e))
          clear HT HN
          go_wp2_with fail
          go_quiet (fail)
          all_goals go_wp2_with fail
          all_goals
            go_ret
            exact ⟨by rw [HF.out]; first | rfl | simp_all, below_drewN hwr _⟩
      · have hke : k = a.length := by omega
        have HF : Hid (decide (a = b) = true) := by
          have h := HK.out
          rw [hke, List.take_length, ← HL.out, List.take_length] at h
          exact decide_eq_true h
        clear hke
        go_wp2_with fail
        go_ret
        exact ⟨by rw [HF.out]; first | rfl | simp_all, hwr⟩
  · have hd : ((a.length : Int) == (b.length : Int)) = false := by simp; omega
    have HF : Hid (decide (a = b) = false) := decide_eq_false (fun e => hlen (by rw [e]))
    clear hlen
    go_enter Tryd.func14, Tryd.ntmps14
    go_wp2_with fail
    go_ret
    exact ⟨by rw [HF.out]; first | rfl | simp_all, Below.refl _ _⟩

set_option maxRecDepth 100000 in
set_option maxHeartbeats 2000000 in
theorem eqSl_dec (va vb : Value) (a b : List ByteArray) (w : World) (ha : Strs6 w va a) (hb : Strs6 w vb b) (hm : a.length ≤ 9000000000000000000) (hm' : b.length ≤ 9000000000000000000) :
    Calls Tryd.prog 27 #[va, vb] w fun e w' => e = .returned (.bool (decide (a = b))) ∧ Below w.heap.size w w' := by
  have HA := Lib.hid ha
  have HB := Lib.hid hb
  obtain ⟨Aa, ka, rfl⟩ := ha.shape
  obtain ⟨Ab, kb, rfl⟩ := hb.shape
  clear ha hb
  by_cases hlen : b.length = a.length
  · rw [hlen]
    have HL := Lib.hid hlen
    clear hlen hm'
    have hd : ((a.length : Int) == (a.length : Int)) = true := by simp
    go_enter Tryd.func27, Tryd.ntmps27
    go_wp2_with fail
    go_loopw [13] (fun i wr => ∃ k : Nat, i = .int .i64 k ∧ k ≤ a.length ∧ Hid (a.take k = b.take k) ∧ Below w.heap.size w wr) (fun i _ => a.length - (intOf i).toNat)
    case atStart => exact ⟨0, rfl, by omega, rfl, Below.refl _ _⟩
    case round =>
      obtain ⟨k, rfl, hk, HK, hwr⟩ := hrel
      by_cases hlt : k < a.length
      · have hltb : k < b.length := by rw [HL.out]; exact hlt
        obtain ⟨ba, oa, rfl, _, a0⟩ := (HA.out.below hwr).at_ hlt
        obtain ⟨bb, ob, rfl, _, b0⟩ := (HB.out.below hwr).at_ hltb
        have HT : Hid (a[k]'hlt = b[k]'hltb → a.take (k + 1) = b.take (k + 1)) := fun h => by
          rw [List.take_succ_eq_append_getElem hlt, List.take_succ_eq_append_getElem hltb, HK.out, h]
        have HN : Hid (a[k]'hlt ≠ b[k]'hltb → decide (a = b) = false) := fun h => by
          refine decide_eq_false (fun e => h ?_)
          subst e
          rfl
        have j0 : (0 : Int) ≤ (k : Int) := by omega
        have j1 : (k : Int) < (a.length : Int) := by omega
        generalize a[k]'hlt = s at *
        generalize b[k]'hltb = t at *
        clear hltb
        by_cases hst : s = t
        · have HT1 := Lib.hid (HT.out hst)
          subst hst
          go_wp2_with fail
          go_quiet (fail)
          all_goals
            go_wp2_with fail
            go_roundw
            case rel => exact ⟨k + 1, by go_num, by omega, HT1, below_drewN hwr _⟩
            case measure => simp [intOf]; omega
        · have HF := Lib.hid (HN.out hst)
          have hs1 : (s.toList == t.toList) = false := by rw [beq_eq_false_iff_ne, ByteArray.toList_eq, ByteArray.toList_eq]; exact fun e => hst (ByteArray.ext (Array.toList_inj.1 e))
          clear HT HN
          go_wp2_with fail
          go_quiet (fail)
          all_goals go_wp2_with fail
          all_goals
            go_ret
            exact ⟨by rw [HF.out]; first | rfl | simp_all, below_drewN hwr _⟩
      · have hke : k = a.length := by omega
        have HF : Hid (decide (a = b) = true) := by
          have h := HK.out
          rw [hke, List.take_length, ← HL.out, List.take_length] at h
          exact decide_eq_true h
        clear hke
        go_wp2_with fail
        go_ret
        exact ⟨by rw [HF.out]; first | rfl | simp_all, hwr⟩
  · have hd : ((a.length : Int) == (b.length : Int)) = false := by simp; omega
    have HF : Hid (decide (a = b) = false) := decide_eq_false (fun e => hlen (by rw [e]))
    clear hlen
    go_enter Tryd.func27, Tryd.ntmps27
    go_wp2_with fail
    go_ret
    exact ⟨by rw [HF.out]; first | rfl | simp_all, Below.refl _ _⟩
end Go.Proofs.YtiminahobifomaaDoor
