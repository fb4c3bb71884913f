/- SpanTakes, walked. -/
import Derived.Test.YtgbgignnjpcncaaTakeB
import Derived.Test.YtgbgignnjpcncaaTakeC
namespace Go.Proofs.Ytgbgignnjpcncaa
open Go.ChangeShapes Go.WideShapes Go.ChangeAt Go.RowKit Go.Joins
set_option linter.unusedVariables false
set_option linter.unusedSimpArgs false

theorem below_drew {B : Nat} {a w : World} (h : Below B a w) : Below B a w.drew := h.trans ⟨rfl, rfl, rfl, Nat.le_refl _, fun _ _ => rfl⟩
theorem below_of_drew {w w' : World} (h : Below w.drew.heap.size w.drew w') : Below w.heap.size w w' :=
  (show Below w.heap.size w w.drew from ⟨rfl, rfl, rfl, Nat.le_refl _, fun _ _ => rfl⟩).trans h

theorem ThreesIn.take {w : World} {A : Option Addr} {n c : Nat} {l : List T3} (h : ThreesIn w (.slice A n c) l) (k : Nat) (hk : k ≤ l.length) : ThreesIn w (.slice A k c) (l.take k) := by
  obtain ⟨_, A', c', e, h3⟩ := h
  cases e
  have hl : (l.take k).length = k := by rw [List.length_take]; omega
  refine ⟨by rw [rows3_length], A, c, by rw [hl], fun hn => ?_⟩
  obtain ⟨b, o, hA, hlt, hc⟩ := h3 (by omega)
  refine ⟨b, o, hA, hlt, fun j u hu => hc j u ?_⟩
  have hsp : rows3 l = rows3 (l.take k) ++ rows3 (l.drop k) := by
    rw [rows3, rows3, rows3, ← List.flatMap_append, List.take_append_drop]
  rw [hsp, List.getElem?_append_left (List.getElem?_eq_some_iff.1 hu).1]
  exact hu
theorem total_mem {ss : List ByteArray} {s : ByteArray} (h : s ∈ ss) : s.size ≤ total ss := by
  obtain ⟨i, hi, rfl⟩ := List.getElem_of_mem h
  have := total_get hi
  rwa [← List.getElem_eq_getD (h := hi)] at this

set_option maxRecDepth 100000 in
set_option maxHeartbeats 8000000 in
theorem spanTakes_walk {c0 c1 c2 c6 : Value} {N A B : Int} {S : List T3} {L : List ByteArray} {Bs : List Bool} {Ps : List T3} (w : World) (q : Ask8 w c0 c1 c2 c6 N A B S L Bs Ps) :
    Calls Try.prog 5 #[.agg #[c0, c1, c2, .int .i64 N, .int .i64 A, .int .i64 B, c6]] w fun e w' => e = .returned (.bool true) ∧ Below w.heap.size w w' := by
  obtain ⟨hbel, hc0, hc1, hc2, hc3, hc4, hc5, hc6, hsz⟩ := box7_facts w c0 c1 c2 (.int .i64 N) (.int .i64 A) (.int .i64 B) c6 29
  have q2 := q.below hbel
  go_enter Try.func5, Try.ntmps5
  go_wp2_with fail
  refine (heavy8_any q2).mono ?_
  rintro e w1 ⟨bo, hbo, rfl, hb1⟩
  have q3 := q2.below hb1
  have g1 := below_cellj hc1 hsz hb1
  have g6 := below_cellj hc6 hsz hb1
  have hb2 := hbel.trans (hb1.mono hbel.size)
  have hlt0 : w.heap.size < w1.heap.size := by have := hb1.size; rw [hsz] at this; omega
  obtain ⟨pP, kP, rfl, hcap⟩ := q3.hP4
  obtain ⟨pL, kL, e1, _, _, _⟩ := id q3.hL
  subst e1
  have HPI := Lib.hid q3.hP
  have HLI := Lib.hid (strsIn_of q3.hL)
  have hPl := q3.hP2
  clear hb1 hc0 hc1 hc2 hc3 hc4 hc5 hc6 q3 q2 q hsz hbel
  generalize hB0 : w.heap.size = B0 at g1 g6 hlt0
  cases bo
  · obtain ⟨hT, _, _, hP200⟩ := hbo rfl
    have HM : Hid (∀ s ∈ L, s.size ≤ 4000) := fun s hs => Nat.le_trans (total_mem hs) hT
    have hLl : L.length ≤ 4000 := by unfold total at hT; omega
    clear hT hbo
    go_wp2_with fail
    go_loopw [3] (fun f wr => ∃ k : Nat, f = .int .i64 k ∧ k ≤ Ps.length + 1 ∧ k ≤ 12 ∧ Below w1.heap.size w1 wr) (fun f _ => 12 - (intOf f).toNat)
    case atStart => exact ⟨0, rfl, by omega, by omega, Below.refl _ _⟩
    case round =>
      obtain ⟨k, rfl, hk, hk12, hwr⟩ := hrel
      obtain ⟨wo, rfl⟩ : ∃ wo : World, wo = wr := ⟨_, rfl⟩
      have r1 := below_celllt g1 hlt0 hwr
      have r6 := below_celllt g6 hlt0 hwr
      by_cases hlt : k ≤ Ps.length ∧ k < 12
      · obtain ⟨hl1, hl2⟩ := hlt
        have hkd : decide ((k : Int) < 12) = true := by simp; omega
        have hj0 : (0 : Int) ≤ (k : Int) := by omega
        have hj1 : (k : Int) ≤ (kP : Int) := by omega
        have HPT : Hid (∀ W, Below w1.heap.size w1 W → ThreesIn W (.slice pP k kP) (Ps.take k)) := fun W h => (HPI.out.below h).take k hl1
        have HSL : Hid (∀ W, Below w1.heap.size w1 W → StrsIn W (.slice pL L.length kL) L) := fun W h => HLI.out.below h
        obtain ⟨x, hx⟩ : ∃ x, x = Ps.take k := ⟨_, rfl⟩
        rw [← hx] at HPT
        have hxl : x.length ≤ 4000 := by rw [hx, List.length_take]; omega
        clear hx
        go_wp2_with fail
        refine (copyParts_any _ x _ (HPT.out _ hwr) hxl).mono ?_
        rintro e w3 ⟨v1, rfl, hv1, hbs⟩
        have hw3 := hwr.trans (hbs.mono hwr.size)
        have HV1 := Lib.hid hv1
        clear hbs r1 r6 hv1 hwr
        have r1 := below_celllt g1 hlt0 hw3
        have r6 := below_celllt g6 hlt0 hw3
        go_wp2_with fail
        refine (take_any _ _ L x _ (HSL.out _ hw3) HV1.out HM.out hxl).mono ?_
        rintro e w4 ⟨rfl, hbs⟩
        have hw4 := hw3.trans (hbs.mono hw3.size)
        have HV4 := Lib.hid (HV1.out.below hbs)
        clear hbs r1 r6 hw3 HV1
        have r1 := below_celllt g1 hlt0 hw4
        have r6 := below_celllt g6 hlt0 hw4
        have hlt4 : B0 < w4.heap.size := Nat.lt_of_lt_of_le hlt0 hw4.size
        have hKK : ∀ W', Below w4.heap.size w4 W' → (W'.cell? ⟨B0, 1, none⟩ = some (.slice pL L.length kL) ∧ W'.cell? ⟨B0, 6, none⟩ = some (.slice pP Ps.length kP)) := fun W' h => ⟨below_celllt r1 hlt4 h, below_celllt r6 hlt4 h⟩
        have HK := Lib.hid hKK
        clear hKK
        go_wp2_with fail
        go_region_held3 (fun W' => W'.cell? ⟨B0, 1, none⟩ = some (.slice pL L.length kL) ∧ W'.cell? ⟨B0, 6, none⟩ = some (.slice pP Ps.length kP)) (first | go_keep | exact HK.out _ (below_of_drew (by assumption)))
          (first | (go_at_call 18; refine (refMay_any _ _ L x _ (HSL.out _ (below_drew hw4)) (HPT.out _ (below_drew hw4)) (by omega) HM.out hxl).mono ?_; rintro e w5 ⟨rfl, hbs⟩))
        all_goals
          have hw5 := hw4.trans ((below_of_drew hbs).mono hw4.size)
          have HV5 := Lib.hid (HV4.out.below (below_of_drew hbs))
          clear hbs HK r1 r6 hlt4 HV4
          have r1 := below_celllt g1 hlt0 hw5
          have r6 := below_celllt g6 hlt0 hw5
          cases hok : allOk L x
          · have eS : takeS L x = ⟨#[]⟩ := by simp only [takeS, hok]; rfl
            have eE : takeE L x = 1 := by simp only [takeE, hok]; rfl
            go_wp2_with (first | (go_at_call 13; refine (num8_any _ _).mono ?_; rintro e w' ⟨rfl, rfl⟩))
            refine (eqParts_yes _ _ x _ HV5.out (HPT.out _ hw5) (by omega)).mono ?_
            rintro e w8 ⟨rfl, hb8⟩
            have hw8 := hw5.trans (hb8.mono hw5.size)
            clear hb8
            go_wp2_with fail
            go_roundw
            case rel => exact ⟨k + 1, by go_num, by omega, by omega, hw8⟩
            case measure => simp [intOf]; omega
          · have eS : takeS L x = taken L x := by simp only [takeS, hok]; rfl
            have eE : takeE L x = 0 := by simp only [takeE, hok]; rfl
            have hlt5 : B0 < w5.heap.size := Nat.lt_of_lt_of_le hlt0 hw5.size
            have hKK : ∀ W', Below w5.heap.size w5 W' → (W'.cell? ⟨B0, 1, none⟩ = some (.slice pL L.length kL) ∧ W'.cell? ⟨B0, 6, none⟩ = some (.slice pP Ps.length kP)) := fun W' h => ⟨below_celllt r1 hlt5 h, below_celllt r6 hlt5 h⟩
            have HK := Lib.hid hKK
            clear hKK
            go_wp2_with fail
            go_region_held3 (fun W' => W'.cell? ⟨B0, 1, none⟩ = some (.slice pL L.length kL) ∧ W'.cell? ⟨B0, 6, none⟩ = some (.slice pP Ps.length kP)) (first | go_keep | exact HK.out _ (below_of_drew (by assumption)))
              (first | (go_at_call 19; refine (took_yes _ _ L x _ (HSL.out _ (below_drew hw5)) (HPT.out _ (below_drew hw5)) hok HM.out hxl).mono ?_; rintro e w6 ⟨rfl, hbs⟩))
            have hw6 := hw5.trans ((below_of_drew hbs).mono hw5.size)
            have HV6 := Lib.hid (HV5.out.below (below_of_drew hbs))
            clear hbs HK r1 r6 hlt5 HV5
            have r1 := below_celllt g1 hlt0 hw6
            have r6 := below_celllt g6 hlt0 hw6
            generalize taken L x = T at *
            go_wp2_with (first | (go_at_call 13; refine (num8_any _ _).mono ?_; rintro e w' ⟨rfl, rfl⟩))
            refine (eqParts_yes _ _ x _ HV6.out (HPT.out _ hw6) (by omega)).mono ?_
            rintro e w8 ⟨rfl, hb8⟩
            have hw8 := hw6.trans (hb8.mono hw6.size)
            clear hb8
            go_wp2_with fail
            go_roundw
            case rel => exact ⟨k + 1, by go_num, by omega, by omega, hw8⟩
            case measure => simp [intOf]; omega
      · by_cases hl1 : k ≤ Ps.length
        · have hkd : decide ((k : Int) < 12) = false := by simp; omega
          go_wp2_with fail
          refine (wakes8_any _).mono ?_
          rintro e w3 ⟨rfl, hb4⟩
          have hx := hwr.trans (hb4.mono hwr.size)
          have hx2 := hb2.trans (hx.mono hb2.size)
          clear hb4
          go_wp2_with fail
          go_ret
          exact ⟨rfl, hx2⟩
        · go_wp2_with fail
          refine (wakes8_any _).mono ?_
          rintro e w3 ⟨rfl, hb4⟩
          have hx := hwr.trans (hb4.mono hwr.size)
          have hx2 := hb2.trans (hx.mono hb2.size)
          clear hb4
          go_wp2_with fail
          go_ret
          exact ⟨rfl, hx2⟩
  · go_wp2_with fail
    go_ret
    exact ⟨rfl, hb2⟩
end Go.Proofs.Ytgbgignnjpcncaa
