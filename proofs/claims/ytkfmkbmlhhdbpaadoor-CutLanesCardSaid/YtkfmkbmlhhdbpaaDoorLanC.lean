/- Lanes refused; the page's own lanes; the page's own joining; whether texts are so many of so many bytes. -/
import Derived.Test.YtkfmkbmlhhdbpaaDoorLanB
import Derived.Test.YtkfmkbmlhhdbpaaDoorStrs
namespace Go.Proofs.YtkfmkbmlhhdbpaaDoor
open Go.ChangeShapes Go.WideShapes Go.ChangeAt Go.RowKit Go.Joins
set_option linter.unusedVariables false
set_option linter.unusedSimpArgs false

set_option maxRecDepth 100000 in
set_option maxHeartbeats 2000000 in
theorem cutLanes_no (K m Z : Int) (t : ByteArray) (w : World) (hno : ¬ (mayB (K, m, Z) = true ∧ 0 < t.size ∧ t.size ≤ (K * Z).toNat)) :
    Calls Tryd.prog 8 #[.agg #[.int .i64 K, .int .i64 m, .int .i64 Z], .string t] w fun e w' => e = .returned (.tuple #[.slice none 0 0, .int .i64 1]) ∧ Below w.heap.size w w' := by
  obtain ⟨hb, g0, g1, g2, hsz⟩ := box3_facts w (.int .i64 K) (.int .i64 m) (.int .i64 Z) 31
  cases hmay : mayB (K, m, Z)
  · have HMAY := Lib.hid hmay
    clear hmay hno
    go_enter Tryd.func8, Tryd.ntmps8
    go_wp2_with fail
    generalize w.alloc (.cells #[.int .i64 K, .int .i64 m, .int .i64 Z] 31) = W at *
    go_wp2_with (first
      | (go_at_call 24; refine (may_any _ _ _ _).mono ?_; rintro e wa ⟨rfl, hwa⟩; rw [HMAY.out]))
    go_ret2
    exact ⟨rfl, hb.trans (hwa.mono hb.size)⟩
  · obtain ⟨lg, hlg, hlg1, hlg2, k1, k8, m0, m6, z1, z120⟩ := lg_facts hmay
    rw [hmay, hlg, Int.toNat_natCast] at hno
    have HMAY := Lib.hid hmay
    clear hmay
    by_cases h0 : 0 < t.size
    · have hne := str_ne h0
      have hgt : lg < t.size := Nat.lt_of_not_le (fun h => hno ⟨rfl, h0, h⟩)
      clear hno
      have hd : decide ((lg : Int) < (t.size : Int)) = true := by simp; omega
      go_enter Tryd.func8, Tryd.ntmps8
      go_wp2_with fail
      generalize w.alloc (.cells #[.int .i64 K, .int .i64 m, .int .i64 Z] 31) = W at *
      go_wp2_with (first
        | (go_at_call 24; refine (may_any _ _ _ _).mono ?_; rintro e wa ⟨rfl, hwa⟩; rw [HMAY.out]; have q0 := below_celllt g0 (by omega) hwa; have q2 := below_celllt g2 (by omega) hwa))
      go_ret2
      exact ⟨rfl, hb.trans (hwa.mono hb.size)⟩
    · have he : t.toList.isEmpty = true := by
        rw [ByteArray.toList_eq]
        have : t.data.toList = [] := List.eq_nil_of_length_eq_zero (by rw [str_len]; omega)
        rw [this]; rfl
      clear hno
      go_enter Tryd.func8, Tryd.ntmps8
      go_wp2_with fail
      generalize w.alloc (.cells #[.int .i64 K, .int .i64 m, .int .i64 Z] 31) = W at *
      go_wp2_with (first
        | (go_at_call 24; refine (may_any _ _ _ _).mono ?_; rintro e wa ⟨rfl, hwa⟩; rw [HMAY.out]))
      go_ret2
      exact ⟨rfl, hb.trans (hwa.mono hb.size)⟩

/-- Whether texts are so many of so many bytes. -/
def textsOk (L : List ByteArray) (k z : Int) : Bool := decide ((L.length : Int) = k) && L.all fun x => decide ((x.size : Int) = z)

set_option maxRecDepth 100000 in
set_option maxHeartbeats 2000000 in
theorem refTexts_any (v : Value) (L : List ByteArray) (k z : Int) (w : World) (hv : StrsIn w v L) (hl : L.length ≤ 9000000000000000000) :
    Calls Tryd.prog 15 #[v, .int .i64 k, .int .i64 z] w fun e w' => e = .returned (.bool (textsOk L k z)) ∧ w = w' := by
  have HV := Lib.hid hv
  obtain ⟨A, c, rfl⟩ := hv.len
  clear hv
  go_enter Tryd.func15, Tryd.ntmps15
  go_wp2_with fail
  go_loop [7] (fun i => ∃ n : Nat, i = .int .i64 n ∧ n ≤ L.length ∧ Hid (∀ (j : Nat) x, j < n → L[j]? = some x → (x.size : Int) = z)) (fun i => L.length - (intOf i).toNat)
  case atStart => exact ⟨0, rfl, by omega, fun j x h => absurd h (by omega)⟩
  case round =>
    obtain ⟨n, rfl, hn, H⟩ := hrel
    by_cases hlt : n < L.length
    · by_cases hnk : (n : Int) ≤ k
      · have dk : decide ((n : Int) ≤ k) = true := by simpa using hnk
        obtain ⟨b, o, c', e, x, hx, hc⟩ := HV.out.at_ hlt
        cases e
        have n0 : (0 : Int) ≤ (n : Int) := by omega
        have n1 : (n : Int) < (L.length : Int) := by omega
        by_cases hz : (x.size : Int) = z
        · have HN : Hid (∀ (j : Nat) y, j < n + 1 → L[j]? = some y → (y.size : Int) = z) := by
            intro j y hj hy
            by_cases e : j = n
            · subst e; rw [hx] at hy; cases hy; exact hz
            · exact H.out j y (by omega) hy
          have dz : ((x.size : Int) != z) = false := by rw [hz]; simp
          clear H hx hnk hz
          go_wp2_with fail
          go_round
          case rel => exact ⟨n + 1, by go_num, by omega, HN.out⟩
          case measure => simp [intOf]; omega
        · have hbad : Hid (textsOk L k z = false) := by
            unfold textsOk
            have : (L.all fun x => decide ((x.size : Int) = z)) = false := by
              rw [List.all_eq_false]
              exact ⟨x, List.mem_of_getElem? hx, by simp [hz]⟩
            rw [Hid, this, Bool.and_false]
          have dz : ((x.size : Int) != z) = true := bne_iff_ne.2 hz
          clear H hx hnk hz
          go_wp2_with fail
          go_ret
          exact ⟨by rw [hbad.out]; first | done | rfl, rfl⟩
      · have dk : decide ((n : Int) ≤ k) = false := by simp; omega
        have hbad : Hid (textsOk L k z = false) := by
          unfold textsOk
          rw [Hid, decide_eq_false (by omega), Bool.false_and]
        have dl : ((L.length : Int) == k) = false := beq_eq_false_iff_ne.2 (by omega)
        clear H hnk
        go_wp2_with fail
        go_ret
        exact ⟨by rw [hbad.out]; first | done | rfl | simp [dl], rfl⟩
    · have hok : Hid (textsOk L k z = ((L.length : Int) == k)) := by
        unfold textsOk
        have : (L.all fun x => decide ((x.size : Int) = z)) = true := by
          rw [List.all_eq_true]
          intro x hx
          obtain ⟨j, hj, rfl⟩ := List.getElem_of_mem hx
          exact decide_eq_true (H.out j _ (by omega) (List.getElem?_eq_getElem hj))
        rw [Hid, this, Bool.and_true, Bool.eq_iff_iff]
        simp
      clear H
      go_wp2_with fail
      all_goals
        go_ret
        exact ⟨by rw [hok.out]; first | done | rfl, rfl⟩
end Go.Proofs.YtkfmkbmlhhdbpaaDoor
