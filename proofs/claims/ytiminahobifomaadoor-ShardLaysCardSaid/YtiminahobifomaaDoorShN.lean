/- siloref11.Class. -/
import Derived.Test.YtiminahobifomaaDoorShM
import Derived.Test.YtiminahobifomaaDoorShL
namespace Go.Proofs.YtiminahobifomaaDoor
open Go.ChangeShapes Go.WideShapes Go.ChangeAt Go.RowKit Go.Joins Go.Shelf
set_option linter.unusedVariables false
set_option linter.unusedSimpArgs false

def zeroB (l : List Nat) : Bool := l.all (· == 0)
theorem zeroB_app (a b : List Nat) : zeroB (a ++ b) = (zeroB a && zeroB b) := by simp [zeroB]
theorem zeroB_one (a : Nat) : zeroB [a] = (a == 0) := by simp [zeroB]

set_option maxRecDepth 100000 in
set_option maxHeartbeats 4000000 in
theorem refClass_any (v : Value) (l : List ByteArray) (st g ix : Int) (w : World) (h : Strs6 w v l) (hl : l.length ≤ 100000) (hs : (joinB l).length ≤ 10000000) :
    Calls Tryd.prog 33 #[v, .int .i64 st, .int .i64 g, .int .i64 ix] w fun e w' => e = .returned (.int .i64 (classV l st g ix)) ∧ Below w.heap.size w w' := by
  obtain ⟨A, c, rfl⟩ := h.shape
  have HL := Lib.hid h
  have HTK : Hid (∀ W, Strs6 W (.slice A l.length c) l → Calls Tryd.prog 32 #[.slice A l.length c] W fun e w' => e = .returned (.tuple #[takeV (takeO l), .bool (takeO l).isSome]) ∧ Below W.heap.size W w') := fun W hW => unlay_any _ l W hW hl
  obtain ⟨o, ho⟩ : ∃ o, takeO l = o := ⟨_, rfl⟩
  rw [ho] at HTK
  have HO := Lib.hid ho
  have HSZ : Hid (∀ s ∈ l, s.size ≤ 10000000) := fun s hs' => by
    obtain ⟨a, b, e⟩ := List.append_of_mem hs'
    rw [e, joinB_app, joinB_cons] at hs
    simp only [List.length_append, bytesOf_length] at hs
    omega
  clear ho h hs
  go_enter Tryd.func33, Tryd.ntmps33
  go_wp2_with fail
  go_loopw [9, 10, 11] (fun bv iv _ wr => ∃ (i : Nat) (b : Bool), bv = .bool b ∧ iv = .int .i64 (i : Int) ∧ i ≤ l.length ∧ Hid (b = zeroB (joinB (l.take i))) ∧ Hid (Below w.heap.size w wr)) (fun _ i _ _ => l.length - (intOf i).toNat)
  case atStart => exact ⟨0, true, rfl, rfl, by omega, rfl, Below.refl _ _⟩
  case round =>
    obtain ⟨i, b, rfl, rfl, hil, HZ, HWR⟩ := hrel
    by_cases hlt : i < l.length
    · have j0 : (0 : Int) ≤ (i : Int) := by omega
      have j1 : (i : Int) < (l.length : Int) := by omega
      have wi : IntKind.i64.wrap ((i : Int) + 1) = (i : Int) + 1 := IntWalk.i64_in _ (by omega)
      have HCELL : Hid (∀ W', Below w.heap.size w W' → ∃ b off, A = some ⟨b, off, none⟩ ∧ W'.cell? ⟨b, off + i, none⟩ = some (.string (l[i]'hlt))) := fun W' hW => by
        obtain ⟨b, off, e, _, hc⟩ := (HL.out.below hW).at_ hlt
        exact ⟨b, off, e, hc⟩
      have hsz := HSZ.out _ (List.getElem_mem hlt)
      have HT : Hid (l.take (i + 1) = l.take i ++ [l[i]'hlt]) := List.take_succ_eq_append_getElem hlt
      generalize l[i]'hlt = s at *
      go_wp2_with fail
      go_loopw [9, 11] (fun bv kv wq => ∃ (k : Nat) (b : Bool), bv = .bool b ∧ kv = .int .i64 (k : Int) ∧ k ≤ s.size ∧ Hid (b = zeroB (joinB (l.take i) ++ (bytesOf s).take k)) ∧ Hid (Below w.heap.size w wq)) (fun _ k _ => s.size - (intOf k).toNat)
      case atStart => exact ⟨0, b, rfl, rfl, by omega, by rw [Hid, List.take_zero, List.append_nil]; exact HZ.out, HWR⟩
      case round =>
        obtain ⟨k, b, rfl, rfl, hks, HZK, HWQ⟩ := hrel
        obtain ⟨bb, off, rfl, hcell⟩ := HCELL.out _ HWQ.out
        by_cases hk : k < s.size
        · have d1 : decide ((k : Int) < ((s.size : Nat) : Int)) = true := decide_eq_true (by omega)
          have k0 : (0 : Int) ≤ (k : Int) := by omega
          have k1 : (k : Int) < ((s.size : Nat) : Int) := by omega
          have wk : IntKind.i64.wrap ((k : Int) + 1) = (k : Int) + 1 := IntWalk.i64_in _ (by omega)
          have HK2 : Hid (zeroB (joinB (l.take i) ++ (bytesOf s).take (k + 1)) = (b && (s[k].toNat == 0))) := by
            rw [Hid, bytesOf_take s k hk, ← List.append_assoc, zeroB_app, ← HZK.out, zeroB_one]
          obtain ⟨q, hq⟩ : ∃ q, (((s[k].toNat : Nat) : Int) == 0) = q := ⟨_, rfl⟩
          have HQ : Hid ((s[k].toNat == 0) = q) := by
            rw [Hid, ← hq, Bool.eq_iff_iff, beq_iff_eq, beq_iff_eq]
            omega
          cases b with
          | false =>
            have HN : Hid (false = zeroB (joinB (l.take i) ++ (bytesOf s).take (k + 1))) := by rw [Hid, HK2.out, Bool.false_and]
            clear hq HK2 HQ
            go_wp2_with fail
            go_roundw
            case rel => exact ⟨k + 1, false, rfl, by go_num, by omega, HN, HWQ⟩
            case measure => simp [intOf]; omega
          | true =>
            have HN : Hid (q = zeroB (joinB (l.take i) ++ (bytesOf s).take (k + 1))) := by rw [Hid, HK2.out, HQ.out, Bool.true_and]
            clear HK2 HQ
            go_wp2_with fail
            go_roundw
            case rel => exact ⟨k + 1, q, rfl, by go_num, by omega, HN, HWQ⟩
            case measure => simp [intOf]; omega
        · obtain rfl : k = s.size := by omega
          have d1 : decide (((s.size : Nat) : Int) < ((s.size : Nat) : Int)) = false := decide_eq_false (by omega)
          have HN : Hid (b = zeroB (joinB (l.take (i + 1)))) := by
            rw [Hid, HZK.out, HT.out, joinB_snoc, List.take_of_length_le (l := bytesOf s) (by rw [bytesOf_length]; exact Nat.le_refl _)]
          clear hk
          go_wp2_with fail
          go_roundw
          case rel => exact ⟨i + 1, b, rfl, by go_num, by omega, HN, HWQ⟩
          case measure => simp [intOf]; omega
    · obtain rfl : i = l.length := by omega
      have d1 : decide ((l.length : Int) < (l.length : Int)) = false := decide_eq_false (by omega)
      have HBL : Hid (blankB l = b) := by rw [Hid, HZ.out, List.take_length]; rfl
      clear hlt HZ hil
      cases b with
      | true =>
        have HCV : Hid (classV l st g ix = 0) := by rw [Hid, classV, HBL.out]; rfl
        go_wp2_with fail
        go_ret
        exact ⟨by rw [HCV.out]; rfl, HWR.out⟩
      | false =>
        go_wp2_with fail
        refine (HTK.out _ (HL.out.below HWR.out)).mono ?_
        rintro e w1 ⟨rfl, hb1⟩
        have HB1 := Lib.hid (HWR.out.trans (hb1.mono HWR.out.size))
        clear hb1 HTK HL HWR d1
        cases o with
        | none =>
          unfold takeV shZ
          have HCV : Hid (classV l st g ix = 1) := by rw [Hid, class_none HO.out, HBL.out]; rfl
          dsimp only [Option.isSome]
          have HC9 := Lib.hid (Cell4.new w1 (.int .i64 0) (.int .i64 0) (.int .i64 0) (.string ⟨#[]⟩) 28)
          have hbz := (Below.refl w1.heap.size w1).alloc (Nat.le_refl _) (.cells #[.int .i64 0, .int .i64 0, .int .i64 0, .string ⟨#[]⟩] 28)
          have HB2 := Lib.hid (HB1.out.trans (hbz.mono HB1.out.size))
          clear hbz
          go_upto_region 12 with fail
          generalize w1.alloc (.cells #[.int .i64 0, .int .i64 0, .int .i64 0, .string ⟨#[]⟩] 28) = w2 at *
          generalize w1.heap.size = b9 at *
          obtain ⟨s0, s1, s2, s3, _, _, _, _⟩ := HC9.out
          go_wp2_with fail
          go_ret
          exact ⟨by rw [HCV.out]; rfl, HB2.out⟩
        | some s =>
          obtain ⟨a, b, d, tx⟩ := s
          unfold takeV shV
          dsimp only [Option.isSome]
          have HC9 := Lib.hid (Cell4.new w1 (.int .i64 (a : Int)) (.int .i64 (b : Int)) (.int .i64 (d : Int)) (.string tx) 28)
          have hbz := (Below.refl w1.heap.size w1).alloc (Nat.le_refl _) (.cells #[.int .i64 (a : Int), .int .i64 (b : Int), .int .i64 (d : Int), .string tx] 28)
          have HB2 := Lib.hid (HB1.out.trans (hbz.mono HB1.out.size))
          clear hbz
          go_upto_region 12 with fail
          generalize w1.alloc (.cells #[.int .i64 (a : Int), .int .i64 (b : Int), .int .i64 (d : Int), .string tx] 28) = w2 at *
          generalize w1.heap.size = b9 at *
          obtain ⟨s0, s1, s2, s3, _, _, _, _⟩ := HC9.out
          obtain ⟨q1, hq1⟩ : ∃ q, ((a : Int) == st) = q := ⟨_, rfl⟩
          cases q1 with
          | false =>
            have HNE : Hid (¬ ((a : Int) = st ∧ (d : Int) = g ∧ (b : Int) = ix)) := fun h => by have := h.1; rw [this] at hq1; simp at hq1
            have HCV : Hid (classV l st g ix = 1) := (class_some HO.out st g ix).trans (if_neg HNE.out)
            go_wp2_with fail
            go_ret
            exact ⟨by rw [HCV.out]; rfl, HB2.out⟩
          | true =>
            obtain ⟨q2, hq2⟩ : ∃ q, ((d : Int) == g) = q := ⟨_, rfl⟩
            cases q2 with
            | false =>
              have HNE : Hid (¬ ((a : Int) = st ∧ (d : Int) = g ∧ (b : Int) = ix)) := fun h => by have := h.2.1; rw [this] at hq2; simp at hq2
              have HCV : Hid (classV l st g ix = 1) := (class_some HO.out st g ix).trans (if_neg HNE.out)
              go_wp2_with fail
              go_ret
              exact ⟨by rw [HCV.out]; rfl, HB2.out⟩
            | true =>
              obtain ⟨q3, hq3⟩ : ∃ q, ((b : Int) == ix) = q := ⟨_, rfl⟩
              cases q3 with
              | false =>
                have HNE : Hid (¬ ((a : Int) = st ∧ (d : Int) = g ∧ (b : Int) = ix)) := fun h => by have := h.2.2; rw [this] at hq3; simp at hq3
                have HCV : Hid (classV l st g ix = 1) := (class_some HO.out st g ix).trans (if_neg HNE.out)
                go_wp2_with fail
                go_ret
                exact ⟨by rw [HCV.out]; rfl, HB2.out⟩
              | true =>
                have HCV : Hid (classV l st g ix = 2) := (class_some HO.out st g ix).trans (if_pos ⟨by simpa using hq1, by simpa using hq2, by simpa using hq3⟩)
                go_wp2_with fail
                go_ret
                exact ⟨by rw [HCV.out]; rfl, HB2.out⟩
end Go.Proofs.YtiminahobifomaaDoor
