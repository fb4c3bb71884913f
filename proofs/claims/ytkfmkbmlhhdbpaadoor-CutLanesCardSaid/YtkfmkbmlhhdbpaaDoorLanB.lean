/- Lanes put together: the code's walk. -/
import Derived.Test.YtkfmkbmlhhdbpaaDoorLanA
namespace Go.Proofs.YtkfmkbmlhhdbpaaDoor
open Go.ChangeShapes Go.WideShapes Go.ChangeAt Go.RowKit Go.Joins
set_option linter.unusedVariables false
set_option linter.unusedSimpArgs false

theorem bad_pred (z : Nat) (B : Nat) (w : World) (hc : w.cell? ⟨B, 2, none⟩ = some (.int .i64 (z : Int))) :
    PredAt Tryd.prog 26 #[.pointer (some ⟨B, 0, none⟩)] Value.string (fun x : ByteArray => ((x.size : Int) != (z : Int))) w := by
  intro W x hb
  have hc2 := below_celllt hc (cell_block hc) hb
  unfold FnGives
  show Calls Tryd.prog 26 #[.string x, .pointer (some ⟨B, 0, none⟩)] W _
  go_enter Tryd.func26, Tryd.ntmps26
  go_wp2
  go_ret
  exact ⟨rfl, 0, rfl⟩
theorem contains_no (z B b o c : Nat) (L : List ByteArray) (w : World) (hc : w.cell? ⟨B, 2, none⟩ = some (.int .i64 (z : Int)))
    (hL : ∀ (j : Nat) x, L[j]? = some x → w.cell? ⟨b, o + j, none⟩ = some (.string x)) (hz : ∀ x ∈ L, x.size = z) (hl : L.length ≤ 1000000) :
    Calls Tryd.prog 27 #[.slice (some ⟨b, o, none⟩) L.length c, .func (.func 26) #[] #[.pointer (some ⟨B, 0, none⟩)]] w fun e w' => e = .returned (.bool false) ∧ Below w.heap.size w w' := by
  refine (sh_slices_ContainsFunc Value.string (fun x : ByteArray => ((x.size : Int) != (z : Int))) 26 _ (enters_of Tryd.func26 (by kernel_rfl) rfl) b o L.length c L w (bad_pred z B w hc) (Nat.le_refl _) (by omega) (fun j hj => ?_)).mono fun e w' ⟨he, q, hw⟩ => ?_
  · rw [hL j (L[j]!) (by rw [List.getElem?_eq_getElem hj, List.getElem!_eq_getElem?_getD, List.getElem?_eq_getElem hj]; rfl)]
  · subst hw
    refine ⟨?_, below_drewN (Below.refl _ _) _⟩
    rw [he]
    have : (L.take L.length).any (fun x : ByteArray => ((x.size : Int) != (z : Int))) = false := by
      rw [List.take_length, List.any_eq_false]
      intro x hx
      simp [hz x hx]
    rw [this]
theorem trim_any (s : ByteArray) (w : World) (hs : s.size ≤ 1000000) :
    Calls Tryd.prog 29 #[.string s, .string ⟨#[0]⟩] w fun e w' => (∃ T : ByteArray, e = .returned (.string T) ∧ T.toList.isEmpty = s.data.toList.all (· == 0)) ∧ Below w.heap.size w w' := by
  refine (sh_strings_Trim_one s 0 (by decide) w (by omega)).mono fun e w' ⟨he, hw⟩ => ?_
  refine ⟨⟨_, he, ?_⟩, ?_⟩
  · rw [ByteArray.toList_eq, ← trimB_nil]
  · rcases hw with rfl | rfl
    · exact Below.refl _ _
    · exact ⟨rfl, rfl, rfl, Nat.le_refl _, fun _ _ => rfl⟩
theorem join_any (b o c : Nat) (L : List ByteArray) (w : World) (hL : ∀ (j : Nat) x, L[j]? = some x → w.cell? ⟨b, o + j, none⟩ = some (.string x)) (hb : b < w.heap.size) (hc : L.length ≤ c) (hl : L.length ≤ 1000000) (hs : (joinB L).size ≤ 10000000) :
    Calls Tryd.prog 28 #[.slice (some ⟨b, o, none⟩) L.length c, .string ⟨#[]⟩] w fun e w' => e = .returned (.string (joinB L)) ∧ Below w.heap.size w w' := by
  have e0 : (⟨#[]⟩ : ByteArray).data.toList = [] := rfl
  have e1 : Lib.join (L.map (·.data.toList)) (⟨#[]⟩ : ByteArray).data.toList = (joinB L).data.toList := by rw [e0, join_nil]; rfl
  refine (sh_strings_Join b o c L ⟨#[]⟩ w hL hb (by omega) hc (by rw [e1, str_len]; omega)).mono fun e w' ⟨he, hb⟩ => ⟨?_, hb⟩
  rw [he, e1]

/-- What joined lanes come to: the text, or an error. -/
def joinS (J : ByteArray) (n : Nat) : ByteArray := if tailOk J n then J.extract 0 n else ⟨#[]⟩
def joinE (J : ByteArray) (n : Nat) : Int := if tailOk J n then 0 else 7

set_option maxRecDepth 100000 in
set_option maxHeartbeats 4000000 in
theorem cutJoin_yes (K m Z : Int) (v : Value) (L : List ByteArray) (n : Nat) (w : World) (hmay : mayB (K, m, Z) = true) (hv : StrsIn w v L) (hcap : CapOk v) (hlen : L.length = K.toNat) (hz : ∀ x ∈ L, x.size = Z.toNat) (hJ : (joinB L).size = (K * Z).toNat) (h1 : 1 ≤ n) (hn : n ≤ (K * Z).toNat) :
    Calls Tryd.prog 14 #[.agg #[.int .i64 K, .int .i64 m, .int .i64 Z], v, .int .i64 (n : Int)] w fun e w' => e = .returned (.tuple #[.string (joinS (joinB L) n), .int .i64 (joinE (joinB L) n)]) ∧ Below w.heap.size w w' := by
  obtain ⟨hb, g0, g1, g2, hsz⟩ := box3_facts w (.int .i64 K) (.int .i64 m) (.int .i64 Z) 31
  obtain ⟨lg, hlg, hlg1, hlg2, k1, k8, m0, m6, z1, z120⟩ := lg_facts hmay
  obtain ⟨k, rfl⟩ : ∃ k : Nat, K = (k : Int) := ⟨K.toNat, by omega⟩
  obtain ⟨z, rfl⟩ : ∃ z : Nat, Z = (z : Int) := ⟨Z.toNat, by omega⟩
  rw [hlg, Int.toNat_natCast] at hn hJ
  rw [Int.toNat_natCast] at hlen hz
  have HMAY := Lib.hid hmay
  clear hmay
  obtain ⟨b0, o0, c0, rfl, _⟩ := hv.at_ (k := 0) (by omega)
  have hlc : L.length ≤ c0 := hcap _ _ _ rfl
  have HV : Hid (∀ w', Below w.heap.size w w' → (∀ (j : Nat) x, L[j]? = some x → w'.cell? ⟨b0, o0 + j, none⟩ = some (.string x)) ∧ b0 < w'.heap.size) := by
    intro w' h
    have hs := hv.below h
    refine ⟨fun j x hx => ?_, ?_⟩
    · obtain ⟨b, o, c, e, s, hs1, hs2⟩ := hs.at_ (k := j) (List.getElem?_eq_some_iff.1 hx).1
      cases e
      rw [hx] at hs1
      cases hs1
      exact hs2
    · obtain ⟨b, o, c, e, s, hs1, hs2⟩ := hs.at_ (k := 0) (by omega)
      cases e
      exact cell_block hs2
  have HZ := Lib.hid hz
  clear hv hcap hz
  obtain ⟨J, hJJ⟩ : ∃ J, joinB L = J := ⟨_, rfl⟩
  rw [hJJ] at hJ ⊢
  have hll : ((L.length : Int) != (k : Int)) = false := by rw [hlen]; simp
  have hd1 : decide ((n : Int) < 1) = false := by simp; omega
  have hd2 : decide ((lg : Int) < (n : Int)) = false := by simp; omega
  have HTA : Hid (tailOk J n = (J.extract n J.size).data.toList.all (· == 0)) := by
    unfold tailOk
    rw [Hid, extract_list, List.take_of_length_le (by rw [List.length_drop, str_len]; exact Nat.le_refl _)]
  have hJn : n ≤ J.size := by omega
  have hJ7 : J.size ≤ 10000000 := by omega
  have hlm : L.length ≤ 8 := by omega
  obtain ⟨R, hR⟩ : ∃ R, J.extract n J.size = R := ⟨_, rfl⟩
  rw [hR] at HTA
  have hRs : R.size ≤ 1000 := by rw [← hR, ByteArray.size_extract]; omega
  clear hlen hJ
  have HS : Hid (joinS J n = if tailOk J n then J.extract 0 n else ⟨#[]⟩) := rfl
  have HE : Hid (joinE J n = if tailOk J n then 0 else 7) := rfl
  cases hq : tailOk J n
  all_goals
    rw [hq] at HTA HS HE
    clear hq
    go_enter Tryd.func14, Tryd.ntmps14
    go_wp2_with fail
    generalize w.alloc (.cells #[.int .i64 (k : Int), .int .i64 m, .int .i64 (z : Int)] 31) = W at *
    have GC : Hid (∀ w', Below W.heap.size W w' → w'.cell? ⟨w.heap.size, 0, none⟩ = some (.int .i64 (k : Int)) ∧ w'.cell? ⟨w.heap.size, 2, none⟩ = some (.int .i64 (z : Int))) := fun w' h => ⟨below_celllt g0 (by omega) h, below_celllt g2 (by omega) h⟩
    have HBW : Hid (∀ w', Below W.heap.size W w' → Below w.heap.size w w') := fun w' h => hb.trans (h.mono hb.size)
    clear hb g0 g1 g2 hsz
    go_wp2_with (first
      | (go_at_call 24; refine (may_any _ _ _ _).mono ?_; rintro e wa ⟨rfl, hwa⟩; rw [HMAY.out]; obtain ⟨c0', c2'⟩ := GC.out _ hwa)
      | (go_at_call 27; refine (contains_no z w.heap.size _ _ _ L _ c2' (HV.out _ (HBW.out _ hwa)).1 HZ.out (by omega)).mono ?_; rintro e wb ⟨rfl, hwb⟩; replace hwa := hwa.trans (hwb.mono hwa.size); clear hwb c0' c2'; obtain ⟨c0', c2'⟩ := GC.out _ hwa)
      | (go_at_call 28; refine (join_any _ _ _ L _ (HV.out _ (HBW.out _ hwa)).1 (HV.out _ (HBW.out _ hwa)).2 hlc (by omega) (by rw [hJJ]; exact hJ7)).mono ?_; rintro e wb ⟨rfl, hwb⟩; replace hwa := hwa.trans (hwb.mono hwa.size); clear hwb c0' c2'; obtain ⟨c0', c2'⟩ := GC.out _ hwa; rw [hJJ])
      | (go_at_call 29; refine (trim_any _ _ (by omega)).mono ?_; rintro e wb ⟨⟨T, rfl, hT⟩, hwb⟩; replace hwa := hwa.trans (hwb.mono hwa.size); clear hwb c0' c2'; rw [← HTA.out] at hT))
    go_ret2
    exact ⟨by rw [HS.out, HE.out]; first | done | rfl, HBW.out _ hwa⟩
end Go.Proofs.YtkfmkbmlhhdbpaaDoor
