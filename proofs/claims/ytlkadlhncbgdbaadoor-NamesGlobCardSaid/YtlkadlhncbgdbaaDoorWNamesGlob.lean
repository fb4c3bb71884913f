/- NamesGlob: the law's walk. -/
import Derived.Test.YtlkadlhncbgdbaaDoorNamU
import Derived.Test.YtlkadlhncbgdbaaDoorWNamesFull
import Derived.Deep.RegionHeld3
namespace Go.Proofs.YtlkadlhncbgdbaaDoor
open Go.ChangeShapes Go.WideShapes Go.ChangeAt Go.RowKit Go.Joins
set_option linter.unusedVariables false
set_option linter.unusedSimpArgs false

theorem keep2 {w w' : World} (h : Below w.drew.heap.size w.drew w') : Below w.heap.size w w' :=
  (show Below w.heap.size w w.drew from ⟨rfl, rfl, rfl, Nat.le_refl _, fun _ _ => rfl⟩).trans h
/-- The patterns that are always asked. -/
def lits : List ByteArray := [⟨#[]⟩, ⟨#[42]⟩, ⟨#[42, 42]⟩, ⟨#[42, 47, 42]⟩, ⟨#[42, 42, 58, 42]⟩, ⟨#[97, 42, 98]⟩, ⟨#[42, 42, 42]⟩, ⟨#[97, 47, 42, 42]⟩]
theorem litOwn (w : World) (cs : Array Value) (T : TypeId) (n : Nat) (h : cs.size = n) (hn : n ≤ 1000000) : (w.alloc (.cells cs T)).ownsRow w.heap.size T 1 (.slice (some ⟨w.heap.size, 0, none⟩) n n) n cs.toList := by
  refine ⟨by simp [h], Or.inr ⟨w.heap.size, n, cs, rfl, Nat.le_refl _, heap_alloc_new w _, Nat.le_refl _, by unfold maxLen; omega, by simp [h], ?_⟩⟩
  rw [List.take_of_length_le (by simp [h])]
theorem globV_eq (p s : ByteArray) (h : p.size ≤ 40 ∧ s.size ≤ 40) : globV p s = TF p s 0 0 := by unfold globV TF; rw [if_pos h]; rfl

set_option maxRecDepth 100000 in
set_option maxHeartbeats 8000000 in
theorem namesGlob_walk (w : World) (vS : Value) (ss : List ByteArray) (hS : TextsIn w vS ss) (hm : MaxW w) :
    Calls Tryd.prog 6 #[.agg #[vS]] w fun e w' => e = .returned (.bool true) ∧ Below w.heap.size w w' := by
  obtain ⟨i0, hi, hz0, hz1, hz2⟩ := info_parts infoStr
  have hF := box1_facts w vS 24
  have HM : Hid (∀ w', Below w.heap.size w w' → MaxW w') := fun w' hb => hm.below hb
  have HT := Lib.hid (hS.below hF.1)
  obtain ⟨p, cap, rfl, h16, hs, hSl⟩ := hS
  have HSl := Lib.hid (hSl.below hF.1)
  have HBs := Lib.hid hs
  clear hSl hs hm
  go_enter Tryd.func6, Tryd.ntmps6
  go_wp2_with fail
  generalize w.alloc (Obj.cells #[Value.slice p ss.length cap] 24) = W at *
  obtain ⟨hbel, hc0, hsz⟩ := hF
  have HC0 := Lib.hid hc0
  have HSZ := Lib.hid hsz
  have HLE : w.heap.size ≤ W.heap.size := hbel.size
  have HBW : Hid (∀ w', Below W.heap.size W w' → Below w.heap.size w w') := fun w' h => hbel.trans (h.mono HLE)
  have HFI : Hid (∀ w', Below W.heap.size W w' → w'.cell? ⟨w.heap.size, 0, none⟩ = some (.slice p ss.length cap)) := fun w' h => below_celllt HC0.out (by have := HSZ.out; omega) h
  clear hc0 hsz hbel
  refine (heavy6_any _ ss _ HT.out).mono ?_
  rintro e w1 ⟨heavy, hheavy, rfl, hb1⟩
  cases heavy with
  | true =>
    clear hheavy
    go_wp2_with fail
    go_ret
    exact ⟨rfl, HBW.out _ hb1⟩
  | false =>
    have ht := hheavy rfl
    clear hheavy HT
    have hssl : ss.length ≤ 6000 := by unfold total at ht; omega
    go_upto_region 3 with fail
    go_cut [3] from 12 to 15 (fun v wx => StrsIn wx v (lits ++ ss) ∧ Below W.heap.size W wx)
    case first =>
      have hcell := HFI.out _ (hb1.alloc hb1.size (.cells ((lits.map Value.string).toArray) 9))
      have hlit : (lits.map Value.string).toArray = #[.string ⟨#[]⟩, .string ⟨#[42]⟩, .string ⟨#[42, 42]⟩, .string ⟨#[42, 47, 42]⟩, .string ⟨#[42, 42, 58, 42]⟩, .string ⟨#[97, 42, 98]⟩, .string ⟨#[42, 42, 42]⟩, .string ⟨#[97, 47, 42, 42]⟩] := rfl
      rw [hlit] at hcell
      by_cases h0 : 0 < ss.length
      · obtain ⟨b, off, s, rfl, _, _, _⟩ := text_at (HSl.out.below hb1) HBs.out h0
        have hown := litOwn w1 ((lits.map Value.string).toArray) 9 8 rfl (by omega)
        rw [hlit] at hown
        go_wp2_with (first
          | (at_builtin; refine wpList_append_own _ rfl _ _ 22 rfl w1.heap.size 9 i0 (.string ByteArray.empty) 1 16 Tryd.underlying22 hi hz0 hz1 hz2 rfl (by decide) _ _ _ rfl hown ⟨b, off, none⟩ ss.length cap (ss.map Value.string) rfl (by simp) ?c1 ?c2 ?c3 ?c4 ?c5 ?_)
          | go_in)
        case c1 =>
          intro j a ha
          have hj : j < ss.length := (List.getElem?_eq_some_iff.1 ha).1
          obtain ⟨b', off', s', e, _, HE, hc⟩ := text_at (HSl.out.below hb1) HBs.out hj
          cases e
          have hbx : Below w1.heap.size w1 (w1.alloc (.cells (lits.map Value.string).toArray 9)) := (Below.refl _ _).alloc (Nat.le_refl _) _
          rw [hlit] at hbx
          rw [below_celllt hc (cell_block hc) hbx, HE.out, List.getD, ha]
          rfl
        case c2 => intro a ha; rfl
        case c3 => unfold maxLen; omega
        case c4 => omega
        all_goals
          intro v' w2 hown' hgrow _
          have hbx : Below W.heap.size W w2 := (hb1.alloc hb1.size (.cells (lits.map Value.string).toArray 9)).grown (by rw [hlit]; exact hgrow) (by have := hb1.size; simp; omega) (fun k hk => by have := (hown.lt k hk).1; have := hb1.size; omega)
          have hres : StrsIn w2 v' (lits ++ ss) := by
            have h := RowIs.of_own hown'
            unfold StrsIn
            rw [List.length_append]
            exact h
          clear hown hown' hgrow
          go_wp2_with fail
          go_meet
          exact ⟨hres, hbx⟩
      · have hss : ss = [] := List.eq_nil_of_length_eq_zero (by omega)
        subst hss
        have hres : StrsIn (w1.alloc (.cells (lits.map Value.string).toArray 9)) (.slice (some ⟨w1.heap.size, 0, none⟩) 8 8) (lits ++ []) := by
          have h := strsIn_new w1 lits 9
          rw [List.append_nil]
          exact h
        have hbx : Below W.heap.size W (w1.alloc (.cells (lits.map Value.string).toArray 9)) := hb1.alloc hb1.size _
        rw [hlit] at hres hbx
        cases p with
        | some ad =>
          have hown := litOwn w1 ((lits.map Value.string).toArray) 9 8 rfl (by omega)
          rw [hlit] at hown
          go_wp2_with (first
            | (at_builtin; refine wpList_append_own _ rfl _ _ 22 rfl w1.heap.size 9 i0 (.string ByteArray.empty) 1 16 Tryd.underlying22 hi hz0 hz1 hz2 rfl (by decide) _ _ _ rfl hown ad 0 cap [] rfl (by simp) (fun j u hj => by simp at hj) (fun u hu => by simp at hu) (by unfold maxLen; omega) (by omega) (by simp) ?_)
            | go_in)
          all_goals
            intro v' w2 hown' hgrow _
            have hbx2 : Below W.heap.size W w2 := (hb1.alloc hb1.size (.cells (lits.map Value.string).toArray 9)).grown (by rw [hlit]; exact hgrow) (by have := hb1.size; simp; omega) (fun k hk => by have := (hown.lt k hk).1; have := hb1.size; omega)
            have hres2 : StrsIn w2 v' (lits ++ []) := by
              have h := RowIs.of_own hown'
              unfold StrsIn
              exact h
            clear hown hown' hgrow
            go_wp2_with fail
            go_meet
            exact ⟨hres2, hbx2⟩
        | none =>
          have hsc : ∀ w', (storeCells ⟨w1.heap.size, 8, none⟩ ([] : List Value)).run Tryd.prog w' = .ok () w' := fun w' => rfl
          go_wp2_with fail
          try simp only [Sem.run_pure, Result.andThen_ok, hsc]
          try go_wp2_with fail
          go_meet
          exact ⟨hres, hbx⟩
    case rest =>
      obtain ⟨hst, hcW⟩ := hcut
      obtain ⟨AP, cp, rfl⟩ := hst.len
      have HST : Hid (∀ w', Below wc.heap.size wc w' → StrsIn w' (.slice AP (lits ++ ss).length cp) (lits ++ ss)) := fun w' h => hst.below h
      have HQ : Hid (∀ q ∈ lits ++ ss, q.size ≤ 6000) := by
        intro q hq
        rcases List.mem_append.1 hq with hq | hq
        · have : ∀ q ∈ lits, q.size ≤ 6000 := by decide
          exact this q hq
        · obtain ⟨i, hi, rfl⟩ := List.getElem_of_mem hq
          have := total_get hi
          rw [← List.getElem_eq_getD (h := hi)] at this
          omega
      have hPl : (lits ++ ss).length ≤ 6008 := by rw [List.length_append]; have : lits.length = 8 := rfl; omega
      clear hst hb1
      generalize lits ++ ss = P at *
      generalize hNC : wc.heap.size = NC at *
      have hcC : Below NC wc wc := Below.refl _ _
      go_wp2_with fail
      go_loopw [4] (fun v wx => ∃ i : Nat, v = .int .i64 i ∧ i ≤ 18 ∧ Below NC wc wx ∧ Below W.heap.size W wx) (fun v _ => (18 - intOf v).toNat)
      case atStart => exact ⟨0, rfl, by omega, hcC, hcW⟩
      case round =>
        clear hcC hcW
        obtain ⟨i, rfl, hi18, hcC, hcW⟩ := hrel
        by_cases h4 : i < P.length ∧ i < 18
        · obtain ⟨hiP, hi8⟩ := h4
          have d1 : decide ((i : Int) < 18) = true := by simp; omega
          go_wp2_with fail
          go_loopw [5] (fun v wx => ∃ k : Nat, v = .int .i64 k ∧ k ≤ 10 ∧ Below NC wc wx ∧ Below W.heap.size W wx) (fun v _ => (10 - intOf v).toNat)
          case atStart => exact ⟨0, rfl, by omega, hcC, hcW⟩
          case round =>
            clear hcC hcW
            obtain ⟨k, rfl, hk10, hcC, hcW⟩ := hrel
            have hfld := HFI.out _ hcW
            by_cases h5 : k < ss.length ∧ k < 10
            · obtain ⟨hkS, hk8⟩ := h5
              have d2 : decide ((k : Int) < 10) = true := by simp; omega
              obtain ⟨bb, oo, cc, ee, q, hq, hqc⟩ := (HST.out _ hcC).at_ hiP
              cases ee
              obtain ⟨b, off, s, rfl, hsz, HE, hcell⟩ := text_at (HSl.out.below hcW) HBs.out hkS
              have hqs := HQ.out q (List.mem_of_getElem? hq)
              have hts : s.size ≤ 6000 := by have := total_get hkS; rw [← HE.out] at this; omega
              have i0 : (0 : Int) ≤ (k : Int) := by omega
              have i1 : (k : Int) < (ss.length : Int) := by omega
              have i2 : (0 : Int) ≤ (i : Int) := by omega
              have i3 : (i : Int) < (P.length : Int) := by omega
              clear HE hq
              obtain ⟨wq, rfl⟩ : ∃ wq : World, wq = wr := ⟨_, rfl⟩
              have HKK : Hid (∀ W', Below wq.heap.size wq W' → (W'.cell? ⟨w.heap.size, 0, none⟩ = some (.slice (some ⟨b, off, none⟩) ss.length cap) ∧ W'.cell? ⟨b, off + k, none⟩ = some (.string s) ∧ W'.cell? ⟨bb, oo + i, none⟩ = some (.string q))) := fun W' h => ⟨below_celllt hfld (cell_block hfld) h, below_celllt hcell (cell_block hcell) h, below_celllt hqc (cell_block hqc) h⟩
              by_cases h40 : q.size ≤ 40 ∧ s.size ≤ 40
              · have hE : globE q s = 0 := by unfold globE; rw [if_pos h40]
                have hV := globV_eq q s h40
                have s1 : decide ((q.size : Int) ≤ 40) = true := by simp; omega
                have s2 : decide ((s.size : Int) ≤ 40) = true := by simp; omega
                go_upto_region 10 with fail
                go_region_held3 (fun W' => W'.cell? ⟨w.heap.size, 0, none⟩ = some (.slice (some ⟨b, off, none⟩) ss.length cap) ∧ W'.cell? ⟨b, off + k, none⟩ = some (.string s) ∧ W'.cell? ⟨bb, oo + i, none⟩ = some (.string q)) (first | go_keep | exact HKK.out _ (keep2 (by assumption)))
                  (first | (go_at_call 20; refine (glob_any _ _ _ (by omega) (by omega)).mono ?_; rintro e w2 ⟨rfl, hbx⟩; rw [hV, hE]))
                all_goals
                  obtain ⟨k0, k1, k2⟩ := HKK.out _ (keep2 hbx)
                  have hcC2 := hcC.trans ((keep2 hbx).mono (by have := hcC.size; omega))
                  have hcW2 := hcW.trans ((keep2 hbx).mono hcW.size)
                  clear hbx hcC hcW HKK hfld hqc hcell
                  go_upto_region 13 with fail
                  have HKK2 : Hid (∀ W', Below w2.heap.size w2 W' → (W'.cell? ⟨w.heap.size, 0, none⟩ = some (.slice (some ⟨b, off, none⟩) ss.length cap) ∧ W'.cell? ⟨b, off + k, none⟩ = some (.string s) ∧ W'.cell? ⟨bb, oo + i, none⟩ = some (.string q))) := fun W' h => ⟨below_celllt k0 (cell_block k0) h, below_celllt k1 (cell_block k1) h, below_celllt k2 (cell_block k2) h⟩
                  go_region_held3 (fun W' => W'.cell? ⟨w.heap.size, 0, none⟩ = some (.slice (some ⟨b, off, none⟩) ss.length cap) ∧ W'.cell? ⟨b, off + k, none⟩ = some (.string s) ∧ W'.cell? ⟨bb, oo + i, none⟩ = some (.string q)) (first | go_keep | exact HKK2.out _ (keep2 (by assumption)))
                    (first | (go_at_call 21; refine (refGlob_any _ _ _ h40.1 h40.2).mono ?_; rintro e w3 ⟨rfl, hby⟩))
                  all_goals
                    have hcC3 := hcC2.trans ((keep2 hby).mono (by have := hcC2.size; omega))
                    have hcW3 := hcW2.trans ((keep2 hby).mono hcW2.size)
                    clear hby
                    go_wp2_with (go_at_call 11; refine (num_any _ _ (by omega) (by omega)).mono ?_; rintro e wn ⟨rfl, rfl⟩)
                    go_roundw
                    case rel => exact ⟨k + 1, by go_num, by omega, hcC3, hcW3⟩
                    case measure => simp [intOf]; omega
              · have hE : globE q s = 2 := by unfold globE; rw [if_neg h40]
                have hV : globV q s = false := by unfold globV; rw [if_neg h40]
                by_cases hq4 : q.size ≤ 40
                · have s1 : decide ((q.size : Int) ≤ 40) = true := by simp; omega
                  have s2 : decide ((s.size : Int) ≤ 40) = false := by simp; omega
                  clear h40
                  go_upto_region 10 with fail
                  go_region_held3 (fun W' => W'.cell? ⟨w.heap.size, 0, none⟩ = some (.slice (some ⟨b, off, none⟩) ss.length cap) ∧ W'.cell? ⟨b, off + k, none⟩ = some (.string s) ∧ W'.cell? ⟨bb, oo + i, none⟩ = some (.string q)) (first | go_keep | exact HKK.out _ (keep2 (by assumption)))
                    (first | (go_at_call 20; refine (glob_any _ _ _ (by omega) (by omega)).mono ?_; rintro e w2 ⟨rfl, hbx⟩; rw [hV, hE]))
                  all_goals
                    obtain ⟨k0, k1, k2⟩ := HKK.out _ (keep2 hbx)
                    have hcC2 := hcC.trans ((keep2 hbx).mono (by have := hcC.size; omega))
                    have hcW2 := hcW.trans ((keep2 hbx).mono hcW.size)
                    clear hbx hcC hcW HKK hfld hqc hcell
                    go_wp2_with (go_at_call 11; refine (num_any _ _ (by omega) (by omega)).mono ?_; rintro e wn ⟨rfl, rfl⟩)
                    all_goals
                      go_roundw
                      case rel => exact ⟨k + 1, by go_num, by omega, hcC2, hcW2⟩
                      case measure => simp [intOf]; omega
                · have s1 : decide ((q.size : Int) ≤ 40) = false := by simp; omega
                  clear h40
                  go_upto_region 10 with fail
                  go_region_held3 (fun W' => W'.cell? ⟨w.heap.size, 0, none⟩ = some (.slice (some ⟨b, off, none⟩) ss.length cap) ∧ W'.cell? ⟨b, off + k, none⟩ = some (.string s) ∧ W'.cell? ⟨bb, oo + i, none⟩ = some (.string q)) (first | go_keep | exact HKK.out _ (keep2 (by assumption)))
                    (first | (go_at_call 20; refine (glob_any _ _ _ (by omega) (by omega)).mono ?_; rintro e w2 ⟨rfl, hbx⟩; rw [hV, hE]))
                  all_goals
                    obtain ⟨k0, k1, k2⟩ := HKK.out _ (keep2 hbx)
                    have hcC2 := hcC.trans ((keep2 hbx).mono (by have := hcC.size; omega))
                    have hcW2 := hcW.trans ((keep2 hbx).mono hcW.size)
                    clear hbx hcC hcW HKK hfld hqc hcell
                    go_wp2_with (go_at_call 11; refine (num_any _ _ (by omega) (by omega)).mono ?_; rintro e wn ⟨rfl, rfl⟩)
                    all_goals
                      go_roundw
                      case rel => exact ⟨k + 1, by go_num, by omega, hcC2, hcW2⟩
                      case measure => simp [intOf]; omega
            · by_cases h6 : k < ss.length
              · have d2 : decide ((k : Int) < 10) = false := by simp; omega
                go_wp2_with fail
                go_roundw
                case rel => exact ⟨i + 1, by go_num, by omega, hcC, hcW⟩
                case measure => simp [intOf]; omega
              · go_wp2_with fail
                all_goals
                  go_roundw
                  case rel => exact ⟨i + 1, by go_num, by omega, hcC, hcW⟩
                  case measure => simp [intOf]; omega
        · have hdd : (decide ((i : Int) < (P.length : Int)) && decide ((i : Int) < 18)) = false := by simp; omega
          by_cases h6 : i < P.length
          all_goals
            go_wp2_with (go_at_call 9; refine (wakes_any _ (HM.out _ (HBW.out _ hcW))).mono ?_; rintro e wz ⟨rfl, hwz⟩; replace hcW := hcW.trans (hwz.mono hcW.size); clear hwz)
            go_ret
            exact ⟨by first | rfl | simp, HBW.out _ hcW⟩
end Go.Proofs.YtlkadlhncbgdbaaDoor
