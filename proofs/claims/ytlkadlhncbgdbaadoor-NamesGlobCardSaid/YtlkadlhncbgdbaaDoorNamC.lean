/- Names: the page's own asking whether a text is a part, or a version: the walks. -/
import Derived.Test.YtlkadlhncbgdbaaDoorNamB
import Derived.BigQuiet
namespace Go.Proofs.YtlkadlhncbgdbaaDoor
open Go.ChangeShapes Go.WideShapes Go.ChangeAt Go.RowKit Go.Joins
set_option linter.unusedVariables false
set_option linter.unusedSimpArgs false

set_option maxRecDepth 100000 in
set_option maxHeartbeats 400000 in
theorem letter_any (n : Nat) (w : World) (hn : n < 256) :
    Calls Tryd.prog 29 #[.int .u8 (n : Int)] w fun e w' => e = .returned (.bool (letN n)) ∧ w = w' := by
  go_enter Tryd.func29, Tryd.ntmps29
  go_wp2
  all_goals
    go_ret
    refine ⟨?_, rfl⟩
    simp [letN]
    first
      | done
      | omega
      | (rw [Bool.eq_iff_iff]; simp; omega)

theorem refPart_eq {s : ByteArray} (h : 0 < s.size) : refPartL s.data.toList = (letN (s[0]'h).toNat && letN (s[s.size - 1]'(by omega)).toNat && refGo s.data.toList.length s.data.toList) := by
  cases hl : s.data.toList with
  | nil => exfalso; have := str_len s; rw [hl] at this; simp at this; omega
  | cons c r =>
    have e0 : c = s[0] := by
      have := str_get (s := s) (k := 0) h
      rw [hl] at this
      exact Option.some.inj this
    have e1 : (c :: r).getLast (by simp) = s[s.size - 1]'(by omega) := by
      have h4 : (c :: r)[(c :: r).length - 1]? = some (s[s.size - 1]'(by omega)) := by rw [← hl, str_len]; exact str_get (by omega)
      rw [List.getLast_eq_getElem]
      rw [List.getElem?_eq_getElem (by simp)] at h4
      exact Option.some.inj h4
    have hr : refPartL (c :: r) = (letB c && letB ((c :: r).getLast (by simp)) && refGo (c :: r).length (c :: r)) := rfl
    rw [hr, e1, letB_eq, letB_eq, e0]
theorem drop_at {s : ByteArray} {k : Nat} (h : k < s.size) : s.data.toList.drop k = s[k] :: s.data.toList.drop (k + 1) := by
  have h2 : k < s.data.toList.length := by rw [str_len]; exact h
  rw [List.drop_eq_getElem_cons h2]
  rfl
theorem refGo_letter {s : ByteArray} {k : Nat} (h : k < s.size) (hl : letN s[k].toNat = true) :
    refGo (s.data.toList.drop k).length (s.data.toList.drop k) = refGo (s.data.toList.drop (k + 1)).length (s.data.toList.drop (k + 1)) := by
  rw [drop_at h, List.length_cons, refGo, letB_eq, hl, if_pos rfl]
/-- From a gap on: what is asked of the gap, and what comes behind it. -/
theorem refGo_gap {s : ByteArray} {k m : Nat} (h : k < s.size) (hl : letN s[k].toNat = false) (hkm : k < m) (hm : m ≤ s.size)
    (hin : ∀ i, k ≤ i → i < m → ∃ c, s.data.toList[i]? = some c ∧ letB c = false) (hout : ∀ c, s.data.toList[m]? = some c → letB c = true) :
    refGo (s.data.toList.drop k).length (s.data.toList.drop k) = (sepOk (s.extract k m).data.toList && refGo (s.data.toList.drop m).length (s.data.toList.drop m)) := by
  have hL : lead (fun c => !letB c) (s.data.toList.drop k) = m - k := by
    refine lead_eq (by rw [List.length_drop, str_len]; omega) (fun i hi => ?_) (fun c hc => ?_)
    · obtain ⟨c, h1, h2⟩ := hin (k + i) (by omega) (by omega)
      exact ⟨c, by rw [List.getElem?_drop]; exact h1, by simp [h2]⟩
    · rw [List.getElem?_drop, show k + (m - k) = m by omega] at hc
      simp [hout c hc]
  have hT : (s.data.toList.drop k).takeWhile (fun c => !letB c) = (s.extract k m).data.toList := by
    have h1 := List.takeWhile_append_dropWhile (p := fun c => !letB c) (l := s.data.toList.drop k)
    have h2 : (s.extract k m).data.toList = (s.data.toList.drop k).take (m - k) := by
      rw [ByteArray.data_extract, Array.toList_extract]
    rw [h2, ← hL]
    unfold lead
    conv => rhs; arg 2; rw [← h1]
    rw [List.take_left]
  have hD : (s.data.toList.drop k).dropWhile (fun c => !letB c) = s.data.toList.drop m := by
    rw [← drop_lead, hL, List.drop_drop, show k + (m - k) = m by omega]
  have e := drop_at h
  have hc : letB s[k] = false := by rw [letB_eq]; exact hl
  have hlen : (s.data.toList.drop k).length = (s.data.toList.drop (k + 1)).length + 1 := by rw [e]; rfl
  conv => lhs; rw [hlen, e]
  rw [refGo, hc, ← e, hT, hD]
  simp only [Bool.false_eq_true, if_false]
  have hle : (s.data.toList.drop m).length ≤ (s.data.toList.drop (k + 1)).length := by simp only [List.length_drop]; omega
  rw [refGo_fuel _ _ _ hle (Nat.le_refl _)]
  cases sepOk (s.extract k m).data.toList <;> simp

set_option maxRecDepth 100000 in
set_option maxHeartbeats 2000000 in
theorem refPart_any (s : ByteArray) (w : World) (hs : s.size ≤ 9000000000000000000) :
    Calls Tryd.prog 22 #[.string s] w fun e w' => e = .returned (.bool (refPartL s.data.toList)) ∧ w = w' := by
  by_cases h0 : s.size = 0
  · have hE : s.data.toList = [] := List.eq_nil_of_length_eq_zero (by rw [str_len]; exact h0)
    have h00 : ((s.size : Int) == 0) = true := by rw [h0]; rfl
    clear h0
    go_enter Tryd.func22, Tryd.ntmps22
    go_wp2_with fail
    go_ret
    refine ⟨?_, rfl⟩
    rw [hE]
    rfl
  have hp : 0 < s.size := by omega
  have HQ := Lib.hid (refPart_eq hp)
  obtain ⟨a, hca, ha256⟩ : ∃ a : Nat, (∀ h : 0 < s.size, (s[0]'h).toNat = a) ∧ a < 256 := ⟨(s[0]'hp).toNat, fun h => rfl, UInt8.toNat_lt _⟩
  obtain ⟨b, hcb, hb256⟩ : ∃ a : Nat, (∀ h : s.size - 1 < s.size, (s[s.size - 1]'h).toNat = a) ∧ a < 256 := ⟨(s[s.size - 1]'(by omega)).toNat, fun h => rfl, UInt8.toNat_lt _⟩
  have e1 : IntKind.i64.wrap ((s.size : Int) - 1) = (s.size : Int) - 1 := by rw [IntWalk.i64_in _ (by omega)]
  have e2 : ((s.size : Int) - 1).toNat = s.size - 1 := by omega
  have j0 : (0 : Int) ≤ (s.size : Int) - 1 := by omega
  have j1 : (s.size : Int) - 1 < (s.size : Int) := by omega
  have h00 : ((s.size : Int) == 0) = false := beq_eq_false_iff_ne.2 (by omega)
  have HQ2 : Hid (refPartL s.data.toList = (letN a && letN b && refGo s.data.toList.length s.data.toList)) := by rw [Hid, HQ.out, hca hp, hcb (by omega)]
  clear HQ
  go_enter Tryd.func22, Tryd.ntmps22
  cases hla : letN a
  · rw [hla] at HQ2
    go_wp2_with (go_at_call 29; refine (letter_any _ _ (by first | assumption | omega)).mono ?_; rintro e w' ⟨rfl, rfl⟩)
    go_ret
    refine ⟨?_, rfl⟩
    rw [HQ2.out]
    simp
  cases hlb : letN b
  · rw [hla, hlb] at HQ2
    go_wp2_with (go_at_call 29; refine (letter_any _ _ (by first | assumption | omega)).mono ?_; rintro e w' ⟨rfl, rfl⟩)
    go_ret
    refine ⟨?_, rfl⟩
    rw [HQ2.out]
    simp
  rw [hla, hlb, Bool.true_and, Bool.true_and] at HQ2
  have HQ := HQ2
  clear HQ2
  go_wp2_with (go_at_call 29; refine (letter_any _ _ (by first | assumption | omega)).mono ?_; rintro e w' ⟨rfl, rfl⟩)
  clear hca hcb ha256 hb256 hla hlb e1 e2 j0 j1 h00 h0
  go_loop [3] (fun i => ∃ k : Nat, i = .int .i64 k ∧ k ≤ s.size ∧ Hid (refPartL s.data.toList = refGo (s.data.toList.drop k).length (s.data.toList.drop k))) (fun i => s.size - (intOf i).toNat)
  case atStart => exact ⟨0, rfl, by omega, HQ.out⟩
  case round =>
    obtain ⟨k, rfl, hk, H⟩ := hrel
    clear HQ
    by_cases hlt : k < s.size
    · have h8 : s[k].toNat < 256 := s[k].toNat_lt
      cases hl : letN s[k].toNat
      · go_wp2_with (go_at_call 29; refine (letter_any _ _ (by first | assumption | omega)).mono ?_; rintro e w' ⟨rfl, rfl⟩)
        have HR : Hid (∀ m, k < m → m ≤ s.size → (∀ i, k ≤ i → i < m → ∃ c, s.data.toList[i]? = some c ∧ letB c = false) → (∀ c, s.data.toList[m]? = some c → letB c = true) → refPartL s.data.toList = (sepOk (s.extract k m).data.toList && refGo (s.data.toList.drop m).length (s.data.toList.drop m))) :=
          fun m h1 h2 h3 h4 => by rw [H.out]; exact refGo_gap hlt hl h1 h2 h3 h4
        have HF : Hid (∃ c, s.data.toList[k]? = some c ∧ letB c = false) := ⟨_, str_get hlt, hl⟩
        clear H h8 hl
        go_loop [4] (fun i => ∃ m : Nat, i = .int .i64 m ∧ k ≤ m ∧ m ≤ s.size ∧ Hid (∀ i, k ≤ i → i < m → ∃ c, s.data.toList[i]? = some c ∧ letB c = false)) (fun i => s.size - (intOf i).toNat)
        case atStart => exact ⟨k, rfl, Nat.le_refl _, by omega, fun i h1 h2 => absurd h1 (by omega)⟩
        case round =>
          obtain ⟨m, rfl, hkm, hm, HM⟩ := hrel
          by_cases hmt : m < s.size
          · have h8 : s[m].toNat < 256 := s[m].toNat_lt
            cases hl : letN s[m].toNat
            · have HN : Hid (∀ i, k ≤ i → i < m + 1 → ∃ c, s.data.toList[i]? = some c ∧ letB c = false) := by
                intro i h1 h2
                by_cases e : i = m
                · subst e; exact ⟨_, str_get hmt, hl⟩
                · exact HM.out i h1 (by omega)
              clear HM
              go_wp2_with (go_at_call 29; refine (letter_any _ _ (by first | assumption | omega)).mono ?_; rintro e w' ⟨rfl, rfl⟩)
              go_round
              case rel => exact ⟨m + 1, by go_num, by omega, by omega, HN.out⟩
              case measure => simp [intOf]; omega
            · have hkm2 : k < m := by
                rcases Nat.lt_or_ge k m with h | h
                · exact h
                · have e : m = k := by omega
                  obtain ⟨c, h1, h2⟩ := HF.out
                  subst e
                  rw [str_get hmt] at h1
                  rw [← Option.some.inj h1, letB_eq, hl] at h2
                  cases h2
              have HG : Hid (refPartL s.data.toList = (sepOk (s.extract k m).data.toList && refGo (s.data.toList.drop m).length (s.data.toList.drop m))) := HR.out m hkm2 hm HM.out (fun c hc => by rw [str_get hmt] at hc; rw [← Option.some.inj hc, letB_eq]; exact hl)
              clear HR HM HF
              obtain ⟨W, hW⟩ : ∃ W : ByteArray, s.extract k m = W := ⟨_, rfl⟩
              rw [hW] at HG
              have hWs : W.size ≤ s.size := by rw [← hW, ByteArray.size_extract]; omega
              go_wp2_with (go_at_call 29; refine (letter_any _ _ (by first | assumption | omega)).mono ?_; rintro e w' ⟨rfl, rfl⟩)
              all_goals
                first
                  | (have hS : sepOk W.data.toList = true := by rw [← ByteArray.toList_eq]; simp_all [sepOk]
                     refine ⟨⟨m, rfl, by omega, ?_⟩, by simp [intOf]; omega⟩
                     rw [Hid, HG.out, hS, Bool.true_and])
                  | (exfalso; simp_all; done)
                  | skip
              have hno : W.toList ≠ [46] ∧ W.toList ≠ [95] ∧ W.toList ≠ [95, 95] := by simp_all
              have HG2 : Hid (refPartL s.data.toList = (W.data.toList.all (· == 45) && refGo (s.data.toList.drop m).length (s.data.toList.drop m))) := by
                rw [Hid, HG.out]
                congr 1
                rw [← ByteArray.toList_eq]
                simp [sepOk, hno]
              clear HG hno
              go_loop [6, 7] (fun o j => ∃ (i : Nat) (ob : Bool), j = .int .i64 i ∧ o = .bool ob ∧ i ≤ W.size ∧ Hid (ob = (W.data.toList.take i).all (· == 45))) (fun _ j => W.size - (intOf j).toNat)
              case atStart => exact ⟨0, true, rfl, rfl, by omega, rfl⟩
              case round =>
                obtain ⟨i, ob, rfl, rfl, hi, HO⟩ := hrel
                by_cases hit : i < W.size
                · have HN : Hid (∀ o2 : Bool, o2 = (ob && (W[i] == 45)) → o2 = (W.data.toList.take (i + 1)).all (· == 45)) := by
                    intro o2 h
                    rw [h, HO.out, List.take_succ_eq_append_getElem (by rw [str_len]; exact hit), List.all_append]
                    simp
                    rfl
                  have e45 : ((W[i].toNat : Int) == 45) = (W[i] == 45) := by
                    rw [Bool.eq_iff_iff]
                    simp only [beq_iff_eq]
                    exact ⟨fun h => UInt8.toNat_inj.1 (by show _ = 45; omega), fun h => by rw [h]; rfl⟩
                  obtain ⟨q, hq⟩ : ∃ q, (W[i] == 45) = q := ⟨_, rfl⟩
                  rw [hq] at HN e45
                  clear hq HO
                  cases ob
                  all_goals
                    go_wp2_with fail
                    go_round
                    case rel => exact ⟨i + 1, _, by go_num, rfl, by omega, HN.out _ (by simp)⟩
                    case measure => simp [intOf]; omega
                · have hall : Hid (ob = W.data.toList.all (· == 45)) := by rw [Hid, HO.out, List.take_of_length_le (by rw [str_len]; omega)]
                  clear HO
                  cases ob
                  · go_wp2_with fail
                    go_ret
                    refine ⟨?_, rfl⟩
                    rw [HG2.out, ← hall.out]
                    simp
                  · go_wp2_with fail
                    refine ⟨⟨m, rfl, by omega, ?_⟩, by simp [intOf]; omega⟩
                    rw [Hid, HG2.out, ← hall.out, Bool.true_and]
          · have hkm2 : k < m := by omega
            have HG : Hid (refPartL s.data.toList = (sepOk (s.extract k m).data.toList && refGo (s.data.toList.drop m).length (s.data.toList.drop m))) := HR.out m hkm2 hm HM.out (fun c hc => by rw [List.getElem?_eq_none (by rw [str_len]; omega)] at hc; cases hc)
            clear HR HM HF
            obtain ⟨W, hW⟩ : ∃ W : ByteArray, s.extract k m = W := ⟨_, rfl⟩
            rw [hW] at HG
            have hWs : W.size ≤ s.size := by rw [← hW, ByteArray.size_extract]; omega
            go_wp2_with (go_at_call 29; refine (letter_any _ _ (by first | assumption | omega)).mono ?_; rintro e w' ⟨rfl, rfl⟩)
            all_goals
              first
                | (have hS : sepOk W.data.toList = true := by rw [← ByteArray.toList_eq]; simp_all [sepOk]
                   refine ⟨⟨m, rfl, by omega, ?_⟩, by simp [intOf]; omega⟩
                   rw [Hid, HG.out, hS, Bool.true_and])
                | (exfalso; simp_all; done)
                | skip
            have hno : W.toList ≠ [46] ∧ W.toList ≠ [95] ∧ W.toList ≠ [95, 95] := by simp_all
            have HG2 : Hid (refPartL s.data.toList = (W.data.toList.all (· == 45) && refGo (s.data.toList.drop m).length (s.data.toList.drop m))) := by
              rw [Hid, HG.out]
              congr 1
              rw [← ByteArray.toList_eq]
              simp [sepOk, hno]
            clear HG hno
            go_loop [6, 7] (fun o j => ∃ (i : Nat) (ob : Bool), j = .int .i64 i ∧ o = .bool ob ∧ i ≤ W.size ∧ Hid (ob = (W.data.toList.take i).all (· == 45))) (fun _ j => W.size - (intOf j).toNat)
            case atStart => exact ⟨0, true, rfl, rfl, by omega, rfl⟩
            case round =>
              obtain ⟨i, ob, rfl, rfl, hi, HO⟩ := hrel
              by_cases hit : i < W.size
              · have HN : Hid (∀ o2 : Bool, o2 = (ob && (W[i] == 45)) → o2 = (W.data.toList.take (i + 1)).all (· == 45)) := by
                  intro o2 h
                  rw [h, HO.out, List.take_succ_eq_append_getElem (by rw [str_len]; exact hit), List.all_append]
                  simp
                  rfl
                have e45 : ((W[i].toNat : Int) == 45) = (W[i] == 45) := by
                  rw [Bool.eq_iff_iff]
                  simp only [beq_iff_eq]
                  exact ⟨fun h => UInt8.toNat_inj.1 (by show _ = 45; omega), fun h => by rw [h]; rfl⟩
                obtain ⟨q, hq⟩ : ∃ q, (W[i] == 45) = q := ⟨_, rfl⟩
                rw [hq] at HN e45
                clear hq HO
                cases ob
                all_goals
                  go_wp2_with fail
                  go_round
                  case rel => exact ⟨i + 1, _, by go_num, rfl, by omega, HN.out _ (by simp)⟩
                  case measure => simp [intOf]; omega
              · have hall : Hid (ob = W.data.toList.all (· == 45)) := by rw [Hid, HO.out, List.take_of_length_le (by rw [str_len]; omega)]
                clear HO
                cases ob
                · go_wp2_with fail
                  go_ret
                  refine ⟨?_, rfl⟩
                  rw [HG2.out, ← hall.out]
                  simp
                · go_wp2_with fail
                  refine ⟨⟨m, rfl, by omega, ?_⟩, by simp [intOf]; omega⟩
                  rw [Hid, HG2.out, ← hall.out, Bool.true_and]
      · have HN : Hid (refPartL s.data.toList = refGo (s.data.toList.drop (k + 1)).length (s.data.toList.drop (k + 1))) := by rw [Hid, H.out]; exact refGo_letter hlt hl
        clear H
        go_wp2_with (go_at_call 29; refine (letter_any _ _ (by first | assumption | omega)).mono ?_; rintro e w' ⟨rfl, rfl⟩)
        go_round
        case rel => exact ⟨k + 1, by go_num, by omega, HN.out⟩
        case measure => simp [intOf]; omega
    · go_wp2_with fail
      go_ret
      refine ⟨?_, rfl⟩
      rw [H.out, List.drop_of_length_le (by rw [str_len]; omega)]
      rfl
end Go.Proofs.YtlkadlhncbgdbaaDoor
