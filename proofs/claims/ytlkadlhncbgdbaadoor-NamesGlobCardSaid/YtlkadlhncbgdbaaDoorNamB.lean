/- Names: whether a text is a part, or a version: the code's walks. -/
import Derived.Test.YtlkadlhncbgdbaaDoorNamA
import Derived.WalkMore
namespace Go.Proofs.YtlkadlhncbgdbaaDoor
open Go.ChangeShapes Go.WideShapes Go.ChangeAt Go.RowKit Go.Joins
set_option linter.unusedVariables false
set_option linter.unusedSimpArgs false

theorem partL_no {l : List UInt8} (h : lead letB l = 0) : partL l = false := by unfold partL partC; rw [if_pos h]
theorem partL_end {l : List UInt8} (h : lead letB l ≠ 0) (h2 : l.drop (lead letB l) = []) : partL l = true := by unfold partL partC; rw [if_neg h, if_pos h2]
theorem partL_bad {l : List UInt8} (h : lead letB l ≠ 0) (h2 : l.drop (lead letB l) ≠ []) (h3 : betweenL (l.drop (lead letB l)) = 0) : partL l = false := by unfold partL partC; rw [if_neg h, if_neg h2, if_pos h3]
theorem partL_on {l : List UInt8} (h : lead letB l ≠ 0) (h2 : l.drop (lead letB l) ≠ []) (h3 : betweenL (l.drop (lead letB l)) ≠ 0) : partL l = partL ((l.drop (lead letB l)).drop (betweenL (l.drop (lead letB l)))) := by
  have hle := lead_le letB l
  conv => lhs; unfold partL partC
  rw [if_neg h, if_neg h2, if_neg h3]
  exact partC_fuel _ _ _ (by simp only [List.length_drop]; omega) (by omega)
theorem extract_drop (s : ByteArray) (k : Nat) : (s.extract k s.size).data.toList = s.data.toList.drop k := by
  rw [ByteArray.data_extract, Array.toList_extract]
  simp
  rw [List.take_of_length_le]; simp
theorem between_le (l : List UInt8) : betweenL l ≤ l.length := by
  by_cases h : betweenL l = 0
  · omega
  · exact (ok_of_between h).1
theorem isEmpty_drop {T t : ByteArray} {k : Nat} (h : T.data.toList = t.data.toList.drop k) : T.toList.isEmpty = true ↔ t.data.toList.drop k = [] := by
  rw [ByteArray.toList_eq, h, List.isEmpty_iff]

set_option maxRecDepth 100000 in
set_option maxHeartbeats 2000000 in
theorem part_any (s : ByteArray) (w : World) (hs : s.size ≤ 9000000000000000000) :
    Calls Tryd.prog 31 #[.string s] w fun e w' => e = .returned (.bool (partL s.data.toList)) ∧ w = w' := by
  go_enter Tryd.func31, Tryd.ntmps31
  go_wp2_with fail
  go_step3
  go_wp2_with fail
  go_step3
  go_wp2_with fail
  go_loop [0] (fun v => ∃ t : ByteArray, v = .string t ∧ t.size ≤ s.size ∧ Hid (partL s.data.toList = partL t.data.toList)) (fun v => match v with | .string t => t.size | _ => 0)
  case atStart => exact ⟨s, rfl, Nat.le_refl _, rfl⟩
  case round =>
    obtain ⟨t, rfl, ht, HT⟩ := hrel
    go_wp2_with fail
    go_loop [3] (fun n => ∃ k : Nat, n = .int .i64 k ∧ k ≤ t.size ∧ Hid (∀ i, i < k → ∃ c, t.data.toList[i]? = some c ∧ letB c = true)) (fun n => t.size - (intOf n).toNat)
    case atStart => exact ⟨0, rfl, by omega, fun i hi => absurd hi (by omega)⟩
    case round =>
      obtain ⟨k, rfl, hk, H⟩ := hrel
      have fin : Hid (∀ c, t.data.toList[k]? = some c → letB c = false) → Hid (lead letB t.data.toList = k) := fun h => lead_eq (by rw [str_len]; omega) H.out h.out
      have fn : ∃ T : ByteArray, t.extract k t.size = T ∧ Hid (T.data.toList = t.data.toList.drop k) ∧ T.size = t.size - k := ⟨_, rfl, extract_drop t k, by rw [ByteArray.size_extract]; omega⟩
      obtain ⟨T, eT, HTT, hTs⟩ := fn
      have hble : betweenL T.data.toList ≤ t.size - k := by have := between_le T.data.toList; rw [str_len] at this; omega
      by_cases hlt : k < t.size
      · have h8 : t[k].toNat < 256 := t[k].toNat_lt
        cases h45 : letN t[k].toNat
        · have HL := fin (by intro c hc; rw [str_get hlt] at hc; rw [← Option.some.inj hc]; exact h45)
          clear H fin
          go_wp2_with (first
            | (go_at_call 36; refine (plain_any _ _ h8).mono ?_; rintro e w' ⟨rfl, rfl⟩)
            | (go_at_call 37; refine (between_any _ _ (by omega)).mono ?_; rintro e w' ⟨rfl, rfl⟩))
          · have h0 : k = 0 := by assumption
            try rw [Exit.noGoto_ret]
            go_ret
            refine ⟨?_, rfl⟩
            rw [HT.out, partL_no (by rw [HL.out]; exact h0)]
            simp
          · have h0 : ¬ k = 0 := by assumption
            have h1 : ((k : Int) == 0) = true ∨ T.toList.isEmpty = true := by assumption
            have hk0 : 0 < k := by omega
            try rw [Exit.noGoto_ret]
            go_ret
            refine ⟨?_, rfl⟩
            have hE : T.toList.isEmpty = true := h1.resolve_left (by simp; omega)
            rw [HT.out, partL_end (by rw [HL.out]; omega) (by rw [HL.out]; exact (isEmpty_drop HTT.out).1 hE)]
            simp [hk0]
          · have h0 : ¬ k = 0 := by assumption
            have h1 : ((k : Int) == 0) = false ∧ T.toList.isEmpty = false := by assumption
            have h2 : (((betweenL T.data.toList : Nat) : Int) == 0) = true := by assumption
            have hb : betweenL T.data.toList = 0 := by simpa using h2
            have hE : ¬ (t.data.toList.drop k = []) := fun e => by have := (isEmpty_drop HTT.out).2 e; rw [h1.2] at this; cases this
            try rw [Exit.noGoto_ret]
            go_ret
            refine ⟨?_, rfl⟩
            rw [HT.out, partL_bad (by rw [HL.out]; omega) (by rw [HL.out]; exact hE) (by rw [HL.out, ← HTT.out]; exact hb)]
            try rfl
          · have h0 : ¬ k = 0 := by assumption
            have h1 : ((k : Int) == 0) = false ∧ T.toList.isEmpty = false := by assumption
            have h2 : (((betweenL T.data.toList : Nat) : Int) == 0) = false := by assumption
            have hb : betweenL T.data.toList ≠ 0 := by simpa using h2
            have hE : ¬ (t.data.toList.drop k = []) := fun e => by have := (isEmpty_drop HTT.out).2 e; rw [h1.2] at this; cases this
            refine ⟨⟨_, rfl, by rw [ByteArray.size_extract]; omega, ?_⟩, ?_⟩
            · rw [Hid, HT.out, partL_on (by rw [HL.out]; omega) (by rw [HL.out]; exact hE) (by rw [HL.out, ← HTT.out]; exact hb), HL.out, ← HTT.out, ← hTs, extract_drop]
            · simp only [ByteArray.size_extract]; omega
        · have HN : Hid (∀ i, i < k + 1 → ∃ c, t.data.toList[i]? = some c ∧ letB c = true) := by
            intro i hi
            by_cases e : i = k
            · subst e; exact ⟨_, str_get hlt, h45⟩
            · exact H.out i (by omega)
          clear H fin
          go_wp2_with (first
            | (go_at_call 36; refine (plain_any _ _ h8).mono ?_; rintro e w' ⟨rfl, rfl⟩))
          go_round
          case rel => exact ⟨k + 1, by go_num, by omega, HN.out⟩
          case measure => simp [intOf]; omega
      · have HL := fin (by intro c hc; rw [List.getElem?_eq_none (by rw [str_len]; omega)] at hc; cases hc)
        clear H fin
        go_wp2_with (first
          | (go_at_call 36; refine (plain_any _ _ h8).mono ?_; rintro e w' ⟨rfl, rfl⟩)
          | (go_at_call 37; refine (between_any _ _ (by omega)).mono ?_; rintro e w' ⟨rfl, rfl⟩))
        · have h0 : k = 0 := by assumption
          try rw [Exit.noGoto_ret]
          go_ret
          refine ⟨?_, rfl⟩
          rw [HT.out, partL_no (by rw [HL.out]; exact h0)]
          simp
        · have h0 : ¬ k = 0 := by assumption
          have h1 : ((k : Int) == 0) = true ∨ T.toList.isEmpty = true := by assumption
          have hk0 : 0 < k := by omega
          try rw [Exit.noGoto_ret]
          go_ret
          refine ⟨?_, rfl⟩
          have hE : T.toList.isEmpty = true := h1.resolve_left (by simp; omega)
          rw [HT.out, partL_end (by rw [HL.out]; omega) (by rw [HL.out]; exact (isEmpty_drop HTT.out).1 hE)]
          simp [hk0]
        · have h0 : ¬ k = 0 := by assumption
          have h1 : ((k : Int) == 0) = false ∧ T.toList.isEmpty = false := by assumption
          have h2 : (((betweenL T.data.toList : Nat) : Int) == 0) = true := by assumption
          have hb : betweenL T.data.toList = 0 := by simpa using h2
          have hE : ¬ (t.data.toList.drop k = []) := fun e => by have := (isEmpty_drop HTT.out).2 e; rw [h1.2] at this; cases this
          try rw [Exit.noGoto_ret]
          go_ret
          refine ⟨?_, rfl⟩
          rw [HT.out, partL_bad (by rw [HL.out]; omega) (by rw [HL.out]; exact hE) (by rw [HL.out, ← HTT.out]; exact hb)]
          try rfl

theorem verN_eq (c : UInt8) : verC0 c = (letN c.toNat || (decide (65 ≤ c.toNat) && decide (c.toNat ≤ 90)) || decide (c.toNat = 95)) := by
  unfold verC0
  rw [letB_eq]
  congr 1
  rw [decide_eq_decide]
  exact ⟨fun h => by rw [h]; rfl, fun h => UInt8.toNat_inj.1 h⟩
/-- What may stand at a version's place, of numbers. -/
def verNAt (n i : Nat) : Bool := letN n || (decide (65 ≤ n) && decide (n ≤ 90)) || decide (n = 95) || (decide (i ≠ 0) && (decide (n = 46) || decide (n = 45)))
theorem verAt_eq {s : ByteArray} {i : Nat} (h : i < s.size) : verAt s.data.toList i = verNAt s[i].toNat i := by
  unfold verAt verNAt
  have e : s.data.toList.getD i 0 = s[i] := by rw [List.getD, str_get h]; rfl
  rw [e, verN_eq]
  have e1 : ∀ (m : UInt8), decide (s[i] = m) = decide (s[i].toNat = m.toNat) := fun m => by
    rw [decide_eq_decide]; exact ⟨fun h => by rw [h], fun h => UInt8.toNat_inj.1 h⟩
  rw [e1 46, e1 45]; rfl

set_option maxRecDepth 100000 in
set_option maxHeartbeats 2000000 in
theorem version_any (s : ByteArray) (w : World) (hs : s.size ≤ 9000000000000000000) :
    Calls Tryd.prog 32 #[.string s] w fun e w' => e = .returned (.bool (verL s.data.toList)) ∧ w = w' := by
  go_enter Tryd.func32, Tryd.ntmps32
  go_wp2_with fail
  go_loop [7] (fun n => ∃ k : Nat, n = .int .i64 k ∧ k ≤ s.size ∧ Hid (∀ i, i < k → verAt s.data.toList i = true)) (fun n => s.size - (intOf n).toNat)
  case atStart => exact ⟨0, rfl, by omega, fun i hi => absurd hi (by omega)⟩
  case round =>
    obtain ⟨k, rfl, hk, H⟩ := hrel
    by_cases hlt : k < s.size
    · have h8 : s[k].toNat < 256 := s[k].toNat_lt
      have HN : verNAt s[k].toNat k = true → Hid (∀ i, i < k + 1 → verAt s.data.toList i = true) := by
        intro hv i hi
        by_cases e : i = k
        · subst e; rw [verAt_eq hlt]; exact hv
        · exact H.out i (by omega)
      have HB : verNAt s[k].toNat k = false → Hid (verL s.data.toList = false) := fun hv => verL_bad (i := k) (by rw [str_len]; exact hlt) (by rw [verAt_eq hlt]; exact hv)
      clear H
      obtain ⟨c, hc⟩ : ∃ c : Nat, s[k].toNat = c := ⟨_, rfl⟩
      rw [hc] at HN HB h8
      obtain ⟨Y, hY⟩ : ∃ Y, Y = Hid (∀ i, i < k + 1 → verAt s.data.toList i = true) := ⟨_, rfl⟩
      obtain ⟨Z, hZ⟩ : ∃ Z, Z = Hid (verL s.data.toList = false) := ⟨_, rfl⟩
      rw [← hY] at HN
      rw [← hZ] at HB
      have HY := Lib.hid hY
      have HZ := Lib.hid hZ
      clear hY hZ
      cases hl : letN c
      · have g1 : ((65 ≤ c ∧ c ≤ 90) ∨ c = 95 ∨ (k ≠ 0 ∧ (c = 46 ∨ c = 45))) → Y := fun h => HN (by unfold verNAt; rw [hl]; simp; omega)
        have g2 : ¬ ((65 ≤ c ∧ c ≤ 90) ∨ c = 95 ∨ (k ≠ 0 ∧ (c = 46 ∨ c = 45))) → Z := fun h => HB (by unfold verNAt; rw [hl]; simp; omega)
        clear HN HB
        go_wp2_with (first
          | (go_at_call 36; refine (plain_any _ _ h8).mono ?_; rintro e w' ⟨rfl, rfl⟩))
        all_goals
          simp only [bne_iff_ne, bne_eq_false_iff_eq, beq_iff_eq, beq_eq_false_iff_ne, ne_eq] at *
          first
            | (have hy : Y := g1 (by omega)
               rw [HY.out] at hy
               exact ⟨⟨k + 1, by go_num, by omega, hy.out⟩, by simp [intOf]; omega⟩)
            | (have hy : Y := g1 (by omega)
               have e0 : k = 0 := by assumption
               rw [HY.out] at hy
               have hy1 := hy.out
               rw [e0] at hy1
               exact ⟨⟨1, by go_num, by omega, hy1⟩, by simp [intOf]; omega⟩)
            | (have hz : Z := g2 (by omega)
               rw [HZ.out] at hz
               go_ret
               refine ⟨?_, rfl⟩
               rw [hz.out]
               first | rfl | simp)
      · have hy : Y := HN (by unfold verNAt; rw [hl]; simp)
        rw [HY.out] at hy
        go_wp2_with (first
          | (go_at_call 36; refine (plain_any _ _ h8).mono ?_; rintro e w' ⟨rfl, rfl⟩))
        all_goals exact ⟨⟨k + 1, by go_num, by omega, hy.out⟩, by simp [intOf]; omega⟩
    · have HE : Hid (verL s.data.toList = !s.toList.isEmpty) := by
        rw [Hid, ByteArray.toList_eq]
        cases h0 : s.data.toList with
        | nil => rfl
        | cons a l => rw [← h0, verL_yes (by rw [h0]; simp) (fun i hi => H.out i (by rw [str_len] at hi; omega)), h0]; rfl
      clear H
      go_wp2_with fail
      all_goals
        go_ret
        refine ⟨?_, rfl⟩
        rw [HE.out]
        first | rfl | simp
end Go.Proofs.YtlkadlhncbgdbaaDoor
