/- Lanes that are not joined: refused; the page's own lanes and joining. -/
import Derived.Test.YtkfmkbmlhhdbpaaDoorLanC
namespace Go.Proofs.YtkfmkbmlhhdbpaaDoor
open Go.ChangeShapes Go.WideShapes Go.ChangeAt Go.RowKit Go.Joins
set_option linter.unusedVariables false
set_option linter.unusedSimpArgs false

theorem contains_any (z B b o c : Nat) (L : List ByteArray) (w : World) (hc : w.cell? ⟨B, 2, none⟩ = some (.int .i64 (z : Int)))
    (hL : ∀ (j : Nat) x, L[j]? = some x → w.cell? ⟨b, o + j, none⟩ = some (.string x)) (hl : L.length ≤ 1000000) :
    Calls Tryd.prog 27 #[.slice (some ⟨b, o, none⟩) L.length c, .func (.func 26) #[] #[.pointer (some ⟨B, 0, none⟩)]] w fun e w' => e = .returned (.bool (L.any (fun x : ByteArray => ((x.size : Int) != (z : Int))))) ∧ Below w.heap.size w w' := by
  refine (sh_slices_ContainsFunc Value.string (fun x : ByteArray => ((x.size : Int) != (z : Int))) 26 _ (enters_of Tryd.func26 (by kernel_rfl) rfl) b o L.length c L w (bad_pred z B w hc) (Nat.le_refl _) (by omega) (fun j hj => ?_)).mono fun e w' ⟨he, q, hw⟩ => ?_
  · rw [hL j (L[j]!) (by rw [List.getElem?_eq_getElem hj, List.getElem!_eq_getElem?_getD, List.getElem?_eq_getElem hj]; rfl)]
  · subst hw
    refine ⟨?_, below_drewN (Below.refl _ _) _⟩
    rw [he, List.take_length]

set_option maxRecDepth 100000 in
set_option maxHeartbeats 4000000 in
theorem cutJoin_no (K m Z n : Int) (v : Value) (L : List ByteArray) (w : World) (hv : StrsIn w v L) (hcap : CapOk v) (hl : L.length ≤ 9000000000000000000)
    (hno : ¬ (mayB (K, m, Z) = true ∧ textsOk L K Z = true ∧ 1 ≤ n ∧ n ≤ K * Z)) :
    Calls Tryd.prog 14 #[.agg #[.int .i64 K, .int .i64 m, .int .i64 Z], v, .int .i64 n] w fun e w' => e = .returned (.tuple #[.string ⟨#[]⟩, .int .i64 1]) ∧ Below w.heap.size w w' := by
  obtain ⟨hb, g0, g1, g2, hsz⟩ := box3_facts w (.int .i64 K) (.int .i64 m) (.int .i64 Z) 31
  cases hmay : mayB (K, m, Z)
  · obtain ⟨A, c, rfl⟩ := hv.len
    have HMAY := Lib.hid hmay
    clear hmay hno hv hcap
    go_enter Tryd.func14, Tryd.ntmps14
    go_wp2_with fail
    generalize w.alloc (.cells #[.int .i64 K, .int .i64 m, .int .i64 Z] 31) = W at *
    go_wp2_with (first
      | (go_at_call 24; refine (may_any _ _ _ _).mono ?_; rintro e wa ⟨rfl, hwa⟩; rw [HMAY.out]))
    go_ret2
    exact ⟨rfl, hb.trans (hwa.mono hb.size)⟩
  · obtain ⟨lg, hlg, hlg1, hlg2, k1, k8, m0, m6, z1, z120⟩ := lg_facts hmay
    rw [hlg] at hno
    by_cases hlen : (L.length : Int) = K
    · obtain ⟨k, rfl⟩ : ∃ k : Nat, K = (k : Int) := ⟨K.toNat, by omega⟩
      obtain ⟨z, rfl⟩ : ∃ z : Nat, Z = (z : Int) := ⟨Z.toNat, by omega⟩
      have hbx : (L.any (fun x : ByteArray => ((x.size : Int) != (z : Int)))) = !(textsOk L (k : Int) (z : Int)) := by
        unfold textsOk
        rw [decide_eq_true hlen, Bool.true_and, Bool.eq_iff_iff]
        simp
      cases htk : textsOk L (k : Int) (z : Int)
      · rw [htk] at hbx
        have HBX := Lib.hid hbx
        have HMAY := Lib.hid hmay
        obtain ⟨b0, o0, c0, rfl, _⟩ := hv.at_ (k := 0) (by omega)
        have HV : Hid (∀ w', Below w.heap.size w w' → (∀ (j : Nat) x, L[j]? = some x → w'.cell? ⟨b0, o0 + j, none⟩ = some (.string x))) := by
          intro w' h
          have hs := hv.below h
          intro j x hx
          obtain ⟨b, o, c, e, s, hs1, hs2⟩ := hs.at_ (k := j) (List.getElem?_eq_some_iff.1 hx).1
          cases e
          rw [hx] at hs1
          cases hs1
          exact hs2
        have hlm : L.length ≤ 8 := by omega
        have hll : ((L.length : Int) != (k : Int)) = false := by rw [hlen]; simp
        clear hmay hno hv hcap hbx htk hlen
        go_enter Tryd.func14, Tryd.ntmps14
        go_wp2_with fail
        generalize w.alloc (.cells #[.int .i64 (k : Int), .int .i64 m, .int .i64 (z : Int)] 31) = W at *
        have GC : Hid (∀ w', Below W.heap.size W w' → w'.cell? ⟨w.heap.size, 0, none⟩ = some (.int .i64 (k : Int)) ∧ w'.cell? ⟨w.heap.size, 2, none⟩ = some (.int .i64 (z : Int))) := fun w' h => ⟨below_celllt g0 (by omega) h, below_celllt g2 (by omega) h⟩
        have HBW : Hid (∀ w', Below W.heap.size W w' → Below w.heap.size w w') := fun w' h => hb.trans (h.mono hb.size)
        clear hb g0 g1 g2 hsz
        go_wp2_with (first
          | (go_at_call 24; refine (may_any _ _ _ _).mono ?_; rintro e wa ⟨rfl, hwa⟩; rw [HMAY.out]; obtain ⟨c0', c2'⟩ := GC.out _ hwa)
          | (go_at_call 27; refine (contains_any z w.heap.size _ _ _ L _ c2' (HV.out _ (HBW.out _ hwa)) (by omega)).mono ?_; rintro e wb ⟨rfl, hwb⟩; replace hwa := hwa.trans (hwb.mono hwa.size); clear hwb c0' c2'; rw [HBX.out]))
        go_ret2
        exact ⟨by first | done | rfl, HBW.out _ hwa⟩
      · rw [htk] at hbx
        have hnn : ¬ (1 ≤ n ∧ n ≤ (lg : Int)) := fun h => hno ⟨hmay, htk, h⟩
        have HBX := Lib.hid hbx
        have HMAY := Lib.hid hmay
        obtain ⟨b0, o0, c0, rfl, _⟩ := hv.at_ (k := 0) (by omega)
        have HV : Hid (∀ w', Below w.heap.size w w' → (∀ (j : Nat) x, L[j]? = some x → w'.cell? ⟨b0, o0 + j, none⟩ = some (.string x))) := by
          intro w' h
          have hs := hv.below h
          intro j x hx
          obtain ⟨b, o, c, e, s, hs1, hs2⟩ := hs.at_ (k := j) (List.getElem?_eq_some_iff.1 hx).1
          cases e
          rw [hx] at hs1
          cases hs1
          exact hs2
        have hlm : L.length ≤ 8 := by omega
        have hll : ((L.length : Int) != (k : Int)) = false := by rw [hlen]; simp
        clear hmay hno hv hcap hbx htk hlen
        by_cases hn1 : n < 1
        all_goals
          go_enter Tryd.func14, Tryd.ntmps14
          go_wp2_with fail
          generalize w.alloc (.cells #[.int .i64 (k : Int), .int .i64 m, .int .i64 (z : Int)] 31) = W at *
          have GC : Hid (∀ w', Below W.heap.size W w' → w'.cell? ⟨w.heap.size, 0, none⟩ = some (.int .i64 (k : Int)) ∧ w'.cell? ⟨w.heap.size, 2, none⟩ = some (.int .i64 (z : Int))) := fun w' h => ⟨below_celllt g0 (by omega) h, below_celllt g2 (by omega) h⟩
          have HBW : Hid (∀ w', Below W.heap.size W w' → Below w.heap.size w w') := fun w' h => hb.trans (h.mono hb.size)
          clear hb g0 g1 g2 hsz
        · have hd1 : decide (n < 1) = true := by simpa using hn1
          clear hnn
          go_wp2_with (first
            | (go_at_call 24; refine (may_any _ _ _ _).mono ?_; rintro e wa ⟨rfl, hwa⟩; rw [HMAY.out]; obtain ⟨c0', c2'⟩ := GC.out _ hwa)
            | (go_at_call 27; refine (contains_any z w.heap.size _ _ _ L _ c2' (HV.out _ (HBW.out _ hwa)) (by omega)).mono ?_; rintro e wb ⟨rfl, hwb⟩; replace hwa := hwa.trans (hwb.mono hwa.size); clear hwb c0' c2'; rw [HBX.out]))
          go_ret2
          exact ⟨by first | done | rfl, HBW.out _ hwa⟩
        · have hd1 : decide (n < 1) = false := by simpa using hn1
          have hd2 : decide ((lg : Int) < n) = true := by simp; omega
          clear hnn
          go_wp2_with (first
            | (go_at_call 24; refine (may_any _ _ _ _).mono ?_; rintro e wa ⟨rfl, hwa⟩; rw [HMAY.out]; obtain ⟨c0', c2'⟩ := GC.out _ hwa)
            | (go_at_call 27; refine (contains_any z w.heap.size _ _ _ L _ c2' (HV.out _ (HBW.out _ hwa)) (by omega)).mono ?_; rintro e wb ⟨rfl, hwb⟩; replace hwa := hwa.trans (hwb.mono hwa.size); clear hwb c0' c2'; obtain ⟨c0', c2'⟩ := GC.out _ hwa; rw [HBX.out]))
          go_ret2
          exact ⟨by first | done | rfl, HBW.out _ hwa⟩
    · obtain ⟨A, c, rfl⟩ := hv.len
      have HMAY := Lib.hid hmay
      have hll : ((L.length : Int) != K) = true := bne_iff_ne.2 hlen
      clear hmay hno hv hcap hlen
      go_enter Tryd.func14, Tryd.ntmps14
      go_wp2_with fail
      generalize w.alloc (.cells #[.int .i64 K, .int .i64 m, .int .i64 Z] 31) = W at *
      have GC : Hid (∀ w', Below W.heap.size W w' → w'.cell? ⟨w.heap.size, 0, none⟩ = some (.int .i64 K) ∧ w'.cell? ⟨w.heap.size, 2, none⟩ = some (.int .i64 Z)) := fun w' h => ⟨below_celllt g0 (by omega) h, below_celllt g2 (by omega) h⟩
      go_wp2_with (first
        | (go_at_call 24; refine (may_any _ _ _ _).mono ?_; rintro e wa ⟨rfl, hwa⟩; rw [HMAY.out]; obtain ⟨c0', c2'⟩ := GC.out _ hwa))
      go_ret2
      exact ⟨rfl, hb.trans (hwa.mono hb.size)⟩
end Go.Proofs.YtkfmkbmlhhdbpaaDoor
