/- Lanes of a text: the walks of the code and of the page. -/
import Derived.Test.YtkfmkbmlhhdbpaaDoorCutB
import Derived.Test.YtkfmkbmlhhdbpaaDoorLanP
import Derived.Test.YtkfmkbmlhhdbpaaDoorShelf7
import Derived.Deep.RegionHeld3
namespace Go.Proofs.YtkfmkbmlhhdbpaaDoor
open Go.ChangeShapes Go.WideShapes Go.ChangeAt Go.RowKit Go.Joins
set_option linter.unusedVariables false
set_option linter.unusedSimpArgs false

/-- A slice value whose room is told. -/
def CapOk (v : Value) : Prop := ∀ A n c, v = .slice A n c → n ≤ c
theorem capOk_own {w : World} {base size n : Nat} {e : TypeId} {v : Value} {xs : List Value} (h : w.ownsRow base e size v n xs) : CapOk v := by
  intro A k c hv
  rcases h.2 with ⟨h1, h2⟩ | ⟨g, cap, cur, h1, _, _, hc, _⟩
  · rw [h1] at hv; cases hv; exact Nat.le_refl _
  · rw [h1] at hv; cases hv; exact hc
theorem repeat_zero (n : Nat) (w : World) (hn : n ≤ 100000) :
    Calls Tryd.prog 25 #[.string ⟨#[0]⟩, .int .i64 n] w fun e w' => e = .returned (.string (zerosB n)) ∧ Below w.heap.size w w' := by
  have hr : ∀ n, Lib.repeatL [0] n = List.replicate n (0 : UInt8) := by
    intro n
    induction n with
    | zero => rfl
    | succ n ih => simp [Lib.repeatL, List.replicate_succ] at *; try exact ih
  refine (sh_strings_Repeat ⟨#[0]⟩ n w (by omega) (by show 1 * n ≤ _; omega)).mono fun e w' ⟨he, hb⟩ => ⟨?_, hb⟩
  rw [he]
  show Ending.returned (.string ⟨(Lib.repeatL [0] n).toArray⟩) = _
  rw [hr]
  rfl
theorem lanesB_next {K Z : Nat} {t : ByteArray} {i : Nat} (hi : i < K) : (lanesB K Z t).take (i + 1) = (lanesB K Z t).take i ++ [(padB (K * Z) t).extract (i * Z) ((i + 1) * Z)] := by
  have h : i < (lanesB K Z t).length := by rw [lanesB_len]; exact hi
  rw [List.take_succ_eq_append_getElem h]
  simp [lanesB]

set_option maxRecDepth 100000 in
set_option maxHeartbeats 2000000 in
theorem cutLanes_yes (K m Z : Int) (t : ByteArray) (w : World) (hmay : mayB (K, m, Z) = true) (h0 : 0 < t.size) (h1 : t.size ≤ (K * Z).toNat) :
    Calls Tryd.prog 8 #[.agg #[.int .i64 K, .int .i64 m, .int .i64 Z], .string t] w fun e w' => ∃ v, e = .returned (.tuple #[v, .int .i64 0]) ∧ StrsIn w' v (lanesB K.toNat Z.toNat t) ∧ CapOk v ∧ Below w.heap.size w w' := by
  obtain ⟨i0, hi, hz0, hz1, hz2⟩ := info_parts infoStr
  obtain ⟨hb, g0, g1, g2, hsz⟩ := box3_facts w (.int .i64 K) (.int .i64 m) (.int .i64 Z) 31
  obtain ⟨lg, hlg, hlg1, hlg2, k1, k8, m0, m6, z1, z120⟩ := lg_facts hmay
  obtain ⟨k, rfl⟩ : ∃ k : Nat, K = (k : Int) := ⟨K.toNat, by omega⟩
  obtain ⟨z, rfl⟩ : ∃ z : Nat, Z = (z : Int) := ⟨Z.toNat, by omega⟩
  rw [hlg, Int.toNat_natCast] at h1
  have hkz : k * z = lg := by have : ((k * z : Nat) : Int) = (lg : Int) := by rw [← hlg]; simp
                              omega
  rw [Int.toNat_natCast, Int.toNat_natCast]
  have HMAY := Lib.hid hmay
  have hne := str_ne h0
  have hsub : (lg : Int) - (t.size : Int) = ((lg - t.size : Nat) : Int) := by omega
  have hpz : (t ++ zerosB (lg - t.size)).size = lg := by rw [app_size, zerosB_size]; omega
  have hzz : (zerosB (lg - t.size)).size = lg - t.size := zerosB_size _
  have hPP : padB lg t = t ++ zerosB (lg - t.size) := rfl
  have hd1 : decide ((lg : Int) < (t.size : Int)) = false := by simp; omega
  clear hmay
  obtain ⟨P, hP⟩ : ∃ P, t ++ zerosB (lg - t.size) = P := ⟨_, rfl⟩
  obtain ⟨L, hL⟩ : ∃ L, lanesB k z t = L := ⟨_, rfl⟩
  have HLN : Hid (∀ i, i < k → L.take (i + 1) = L.take i ++ [P.extract (i * z) ((i + 1) * z)]) := by
    intro i hi
    rw [← hL, lanesB_next hi, hkz, hPP, hP]
  have HLL : Hid (L.length = k) := by rw [← hL]; exact lanesB_len _ _ _
  rw [hL]
  rw [hP] at hpz
  clear hPP hL
  go_enter Tryd.func8, Tryd.ntmps8
  go_wp2_with fail
  generalize w.alloc (.cells #[.int .i64 (k : Int), .int .i64 m, .int .i64 (z : Int)] 31) = W at *
  have GC : Hid (∀ w', Below W.heap.size W w' → w'.cell? ⟨w.heap.size, 0, none⟩ = some (.int .i64 (k : Int)) ∧ w'.cell? ⟨w.heap.size, 2, none⟩ = some (.int .i64 (z : Int))) := fun w' h => ⟨below_celllt g0 (by omega) h, below_celllt g2 (by omega) h⟩
  have HBW : Hid (∀ w', Below W.heap.size W w' → Below w.heap.size w w') := fun w' h => hb.trans (h.mono hb.size)
  clear hb g0 g1 g2 hsz
  go_wp2_with (first
    | (go_at_call 24; refine (may_any _ _ _ _).mono ?_; rintro e wa ⟨rfl, hwa⟩; rw [HMAY.out]; obtain ⟨c0, c2⟩ := GC.out _ hwa)
    | (go_at_call 25; refine (repeat_zero _ _ (by omega)).mono ?_; rintro e wb ⟨rfl, hwb⟩; replace hwa := hwa.trans (hwb.mono hwa.size); clear hwb c0 c2; obtain ⟨c0, c2⟩ := GC.out _ hwa))
  have hwb := hwa
  clear hwa c0 c2 hsub hd1 hne hP hzz
  go_loopw [6, 38] (fun l i wr => ∃ n : Nat, i = .int .i64 n ∧ n ≤ k ∧ wr.ownsRow W.heap.size 9 1 l n ((L.take n).map Value.string) ∧ Below W.heap.size W wr) (fun _ i _ => k - (intOf i).toNat)
  case atStart => exact ⟨0, rfl, by omega, World.ownsRow_nil _ _ _ _, hwb⟩
  case round =>
    clear hwb
    obtain ⟨n, rfl, hn, hown, hwr⟩ := hrel
    obtain ⟨c0, c2⟩ := GC.out _ hwr
    by_cases hlt : n < k
    · have hnz : (n : Int) * (z : Int) = ((n * z : Nat) : Int) := by simp
      have hn1z : ((n : Int) + 1) * (z : Int) = (((n + 1) * z : Nat) : Int) := by simp
      have q1 : (n + 1) * z ≤ lg := by rw [← hkz]; exact Nat.mul_le_mul_right _ (by omega)
      have q0 : n * z ≤ (n + 1) * z := Nat.mul_le_mul_right _ (by omega)
      have HNX := Lib.hid (HLN.out n hlt)
      obtain ⟨a, ha⟩ : ∃ a, n * z = a := ⟨_, rfl⟩
      obtain ⟨b, hb⟩ : ∃ b, (n + 1) * z = b := ⟨_, rfl⟩
      rw [ha] at hnz q0 HNX
      rw [hb] at hn1z q0 q1 HNX
      obtain ⟨X, hX⟩ : ∃ X, P.extract a b = X := ⟨_, rfl⟩
      rw [hX] at HNX
      have r0 : (0 : Int) ≤ (a : Int) := by omega
      have r1 : (a : Int) ≤ (b : Int) := by omega
      have r2 : (b : Int) ≤ (P.size : Int) := by omega
      clear ha hb
      go_wp2_with (first
        | (at_builtin; refine wpList_append_own _ rfl _ _ 23 rfl W.heap.size 9 i0 (.string ByteArray.empty) 1 16 Tryd.underlying23 hi hz0 hz1 hz2 rfl (by decide) _ _ _ rfl (hown.alloc _) ⟨wr.heap.size, 0, none⟩ 1 1 [.string X] rfl rfl ?c1 ?c2 ?c3 ?c4 ?c5 ?_)
        | go_in)
      case c1 => exact cell_one_new _ _ _
      case c2 => intro u hu; simp at hu; subst hu; rfl
      case c3 => unfold maxLen; omega
      case c4 => omega
      case c5 => have := hwr.size; simp; omega
      all_goals
        intro v' w1 hown' hgrow _
        have hbx := append_below hwr hown hgrow
        clear hown hgrow hwr
        go_wp2_with fail
        go_roundw
        case rel => exact ⟨n + 1, by go_num, by omega, by rw [HNX.out, strs_snoc, List.map_take]; exact hown', hbx⟩
        case measure => simp [intOf]; omega
    · have hnk : n = k := by omega
      have hst : StrsIn wr u6 L := by
        have h := RowIs.of_own hown
        rw [hnk, List.take_of_length_le (by rw [HLL.out]; exact Nat.le_refl _)] at h
        unfold StrsIn
        rw [HLL.out]; exact h
      have hcap := Lib.hid (capOk_own hown)
      clear hown hnk
      go_wp2_with fail
      go_ret2
      exact ⟨_, rfl, hst, hcap.out, HBW.out _ hwr⟩
end Go.Proofs.YtkfmkbmlhhdbpaaDoor
