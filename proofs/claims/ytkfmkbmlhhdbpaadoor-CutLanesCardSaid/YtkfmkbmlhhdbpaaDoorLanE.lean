/- The page's own lanes and joining; texts made to fit. -/
import Derived.Test.YtkfmkbmlhhdbpaaDoorLanD
import Derived.Test.YtkfmkbmlhhdbpaaDoorWCutBack
namespace Go.Proofs.YtkfmkbmlhhdbpaaDoor
open Go.ChangeShapes Go.WideShapes Go.ChangeAt Go.RowKit Go.Joins
set_option linter.unusedVariables false
set_option linter.unusedSimpArgs false

theorem strOf8_zero (n : Nat) : strOf8 (List.replicate n 0) = zerosB n := by
  unfold strOf8 zerosB strL
  simp
theorem blk_zero (w : World) (n : Nat) (T : TypeId) : BytesBlk (w.alloc (.cells (cellsOf8 (List.replicate n 0)) T)) w.heap.size (List.replicate n 0) := by
  intro i hi
  rw [List.length_replicate] at hi
  have hg : (List.replicate n 0).getD i 0 = 0 := by simp [List.getD, hi]
  refine ⟨by rw [hg]; decide, ?_, ?_⟩
  · rw [cell_of_row _ _ _ _ _ _ (heap_alloc_new w _)]
    simp [cellsOf8, hi]
  · unfold World.frozen?
    rw [heap_alloc_new]
    simp
theorem conv_zero (m : Nat) (W : World) : (convert 53 9 (.slice (some ⟨W.heap.size, 0, none⟩) m m)).run Tryd.prog (W.alloc (.cells (cellsOf8 (List.replicate m 0)) 5)) = .ok (.string (zerosB m)) (W.alloc (.cells (cellsOf8 (List.replicate m 0)) 5)) := by
  have hB := blk_zero W m 5
  have := convert_bytes (P := Tryd.prog) (b := W.heap.size) (off := 0) (cap := m) (ns := List.replicate m 0) Tryd.underlying53 Tryd.underlying5 Tryd.underlying9 (BytesBlk.cells hB)
  rw [List.length_replicate, strOf8_zero] at this
  exact this

set_option maxRecDepth 100000 in
set_option maxHeartbeats 2000000 in
theorem refLanes_yes (K m Z : Int) (t : ByteArray) (w : World) (hmay : mayB (K, m, Z) = true) (h1 : t.size ≤ (K * Z).toNat) :
    Calls Tryd.prog 10 #[.agg #[.int .i64 K, .int .i64 m, .int .i64 Z], .string t] w fun e w' => ∃ v, e = .returned v ∧ StrsIn w' v (lanesB K.toNat Z.toNat t) ∧ Below w.heap.size w w' := by
  obtain ⟨i0, hi, hz0, hz1, hz2⟩ := info_parts infoStr
  obtain ⟨hb, g0, g1, g2, hsz⟩ := box3_facts w (.int .i64 K) (.int .i64 m) (.int .i64 Z) 31
  obtain ⟨lg, hlg, hlg1, hlg2, k1, k8, m0, m6, z1, z120⟩ := lg_facts hmay
  obtain ⟨k, rfl⟩ : ∃ k : Nat, K = (k : Int) := ⟨K.toNat, by omega⟩
  obtain ⟨z, rfl⟩ : ∃ z : Nat, Z = (z : Int) := ⟨Z.toNat, by omega⟩
  rw [hlg, Int.toNat_natCast] at h1
  have hkz : k * z = lg := by have : ((k * z : Nat) : Int) = (lg : Int) := by rw [← hlg]; simp
                              omega
  rw [Int.toNat_natCast, Int.toNat_natCast]
  clear hmay
  obtain ⟨d, hd⟩ : ∃ d, lg - t.size = d := ⟨_, rfl⟩
  have hsub : (lg : Int) - (t.size : Int) = (d : Int) := by omega
  have hpz : (t ++ zerosB d).size = lg := by rw [app_size, zerosB_size]; omega
  have hzz : (zerosB d).size = d := zerosB_size _
  have hPP : padB lg t = t ++ zerosB d := by rw [← hd]; rfl
  have hmk := hmk8 (n := d) (by omega)
  obtain ⟨P, hP⟩ : ∃ P, t ++ zerosB d = P := ⟨_, rfl⟩
  obtain ⟨L, hL⟩ : ∃ L, lanesB k z t = L := ⟨_, rfl⟩
  have HLN : Hid (∀ i, i < k → L.take (i + 1) = L.take i ++ [P.extract (i * z) ((i + 1) * z)]) := by
    intro i hi
    rw [← hL, lanesB_next hi, hkz, hPP, hP]
  have HLL : Hid (L.length = k) := by rw [← hL]; exact lanesB_len _ _ _
  rw [hL]
  rw [hP] at hpz
  clear hPP hL
  have hcv := conv_zero d (w.alloc (.cells #[.int .i64 (k : Int), .int .i64 m, .int .i64 (z : Int)] 31))
  rw [hsz] at hcv
  go_enter Tryd.func10, Tryd.ntmps10
  go_wp2_with fail
  generalize w.alloc (.cells #[.int .i64 (k : Int), .int .i64 m, .int .i64 (z : Int)] 31) = W at *
  have GC : Hid (∀ w', Below W.heap.size W w' → w'.cell? ⟨w.heap.size, 0, none⟩ = some (.int .i64 (k : Int)) ∧ w'.cell? ⟨w.heap.size, 2, none⟩ = some (.int .i64 (z : Int))) := fun w' h => ⟨below_celllt g0 (by omega) h, below_celllt g2 (by omega) h⟩
  have HBW : Hid (∀ w', Below W.heap.size W w' → Below w.heap.size w w') := fun w' h => hb.trans (h.mono hb.size)
  have hwb := (Below.refl W.heap.size W).alloc (Nat.le_refl _) (.cells (cellsOf8 (List.replicate d 0)) 5)
  clear hb g1 hsz hcv hmk
  go_loopw [5, 6] (fun l i wr => ∃ n : Nat, i = .int .i64 n ∧ n ≤ k ∧ wr.ownsRow W.heap.size 9 1 l n ((L.take n).map Value.string) ∧ Below W.heap.size W wr) (fun _ i _ => k - (intOf i).toNat)
  case atStart => exact ⟨0, rfl, by omega, World.ownsRow_nil _ _ _ _, hwb⟩
  case round =>
    clear hwb
    obtain ⟨n, rfl, hn, hown, hwr⟩ := hrel
    obtain ⟨c0, c2⟩ := GC.out _ hwr
    by_cases hlt : n < k
    · have hnz : (n : Int) * (z : Int) = ((n * z : Nat) : Int) := by simp
      have hn1z : ((n : Int) + 1) * (z : Int) = (((n + 1) * z : Nat) : Int) := by simp
      have q1 : (n + 1) * z ≤ lg := by rw [← hkz]; exact Nat.mul_le_mul_right _ (by omega)
      have q0 : n * z ≤ (n + 1) * z := Nat.mul_le_mul_right _ (by omega)
      have HNX := Lib.hid (HLN.out n hlt)
      obtain ⟨a, ha⟩ : ∃ a, n * z = a := ⟨_, rfl⟩
      obtain ⟨b, hb⟩ : ∃ b, (n + 1) * z = b := ⟨_, rfl⟩
      rw [ha] at hnz q0 HNX
      rw [hb] at hn1z q0 q1 HNX
      obtain ⟨X, hX⟩ : ∃ X, P.extract a b = X := ⟨_, rfl⟩
      rw [hX] at HNX
      have r0 : (0 : Int) ≤ (a : Int) := by omega
      have r1 : (a : Int) ≤ (b : Int) := by omega
      have r2 : (b : Int) ≤ (P.size : Int) := by omega
      clear ha hb
      go_wp2_with (first
        | (at_builtin; refine wpList_append_own _ rfl _ _ 23 rfl W.heap.size 9 i0 (.string ByteArray.empty) 1 16 Tryd.underlying23 hi hz0 hz1 hz2 rfl (by decide) _ _ _ rfl (hown.alloc _) ⟨wr.heap.size, 0, none⟩ 1 1 [.string X] rfl rfl ?c1 ?c2 ?c3 ?c4 ?c5 ?_)
        | go_in)
      case c1 => exact cell_one_new _ _ _
      case c2 => intro u hu; simp at hu; subst hu; rfl
      case c3 => unfold maxLen; omega
      case c4 => omega
      case c5 => have := hwr.size; simp; omega
      all_goals
        intro v' w1 hown' hgrow _
        have hbx := append_below hwr hown hgrow
        clear hown hgrow hwr
        go_wp2_with fail
        go_roundw
        case rel => exact ⟨n + 1, by go_num, by omega, by rw [HNX.out, strs_snoc, List.map_take]; exact hown', hbx⟩
        case measure => simp [intOf]; omega
    · have hnk : n = k := by omega
      have hst : StrsIn wr u5 L := by
        have h := RowIs.of_own hown
        rw [hnk, List.take_of_length_le (by rw [HLL.out]; exact Nat.le_refl _)] at h
        unfold StrsIn
        rw [HLL.out]; exact h
      clear hown hnk
      go_wp2_with fail
      go_ret
      exact ⟨_, rfl, hst, HBW.out _ hwr⟩

theorem allTo_full (L : List ByteArray) : allTo L L.length = joinB L := by unfold allTo joinB; rw [List.take_length]
theorem allTo_le (L : List ByteArray) (n : Nat) : (allTo L n).size ≤ (joinB L).size := by
  unfold allTo joinB
  rw [strL_size, strL_size]
  conv => rhs; rw [← List.take_append_drop n L, List.map_append, List.flatten_append, List.length_append]
  omega
theorem byte_get {s : ByteArray} {k : Nat} (h : k < s.size) : s.data.toList[k]? = some s[k] := by
  rw [List.getElem?_eq_getElem (by rw [str_len]; exact h)]
  rfl
theorem tailOk_of {J : ByteArray} {n : Nat} (h : ∀ i, n ≤ i → i < J.size → ∃ c, J.data.toList[i]? = some c ∧ c.toNat = 0) : tailOk J n = true := by
  unfold tailOk
  rw [List.all_eq_true]
  intro x hx
  obtain ⟨j, hj, rfl⟩ := List.getElem_of_mem hx
  rw [List.length_drop, str_len] at hj
  obtain ⟨c, h1, h2⟩ := h (n + j) (by omega) (by omega)
  rw [List.getElem_drop]
  have h3 := List.getElem?_eq_some_iff.1 h1
  obtain ⟨h4, h5⟩ := h3
  rw [h5]
  have : c = 0 := UInt8.toNat_inj.1 h2
  rw [this]; rfl
theorem tailOk_not {J : ByteArray} {n i : Nat} (hn : n ≤ i) (hi : i < J.size) (h : J[i].toNat ≠ 0) : tailOk J n = false := by
  unfold tailOk
  rw [List.all_eq_false]
  refine ⟨J[i], ?_, ?_⟩
  · rw [List.mem_iff_getElem?]
    refine ⟨i - n, ?_⟩
    rw [List.getElem?_drop, show n + (i - n) = i by omega]
    exact byte_get hi
  · intro e
    have : J[i] = 0 := by simpa using e
    rw [this] at h
    exact h rfl

set_option maxRecDepth 100000 in
set_option maxHeartbeats 2000000 in
theorem refJoin_yes (v : Value) (L : List ByteArray) (n : Nat) (w : World) (hv : StrsIn w v L) (hl : L.length ≤ 100000) (hJ : (joinB L).size ≤ 100000) (hn : n ≤ (joinB L).size) :
    Calls Tryd.prog 16 #[v, .int .i64 (n : Int)] w fun e w' => e = .returned (.tuple #[.string (joinS (joinB L) n), .bool (tailOk (joinB L) n)]) ∧ w = w' := by
  have HV := Lib.hid hv
  obtain ⟨A, c, rfl⟩ := hv.len
  have HLE := Lib.hid (allTo_le L)
  have HFU := Lib.hid (allTo_full L)
  have HS : Hid (joinS (joinB L) n = if tailOk (joinB L) n then (joinB L).extract 0 n else ⟨#[]⟩) := rfl
  obtain ⟨J, hJJ⟩ : ∃ J, joinB L = J := ⟨_, rfl⟩
  rw [hJJ] at HLE HFU HS hJ hn ⊢
  clear hv hJJ
  go_enter Tryd.func16, Tryd.ntmps16
  go_wp2_with fail
  go_loop [6, 7] (fun t i => ∃ j : Nat, t = .string (allTo L j) ∧ i = .int .i64 j ∧ j ≤ L.length ∧ (allTo L j).size ≤ J.size) (fun _ i => L.length - (intOf i).toNat)
  case atStart => exact ⟨0, rfl, rfl, by omega, HLE.out 0⟩
  case round =>
    obtain ⟨j, rfl, rfl, hj, hjs⟩ := hrel
    by_cases hlt : j < L.length
    · obtain ⟨b, o, c', e, x, hx, hc⟩ := HV.out.at_ hlt
      cases e
      have n0 : (0 : Int) ≤ (j : Int) := by omega
      have n1 : (j : Int) < (L.length : Int) := by omega
      have hnx := Lib.hid (allTo_next hx)
      have hns := HLE.out (j + 1)
      rw [hnx.out] at hns
      have hn2 : (allTo L j).size + x.size ≤ 100000 := by rw [app_size] at hns; omega
      clear hx
      go_wp2_with fail
      go_round
      case rel => exact ⟨j + 1, by rw [hnx.out], by go_num, by omega, by rw [hnx.out]; exact hns⟩
      case measure => simp [intOf]; omega
    · have hjl : j = L.length := by omega
      have hall : allTo L j = J := by rw [hjl]; exact HFU.out
      rw [hall]
      clear hjl hall hjs
      go_wp2_with fail
      go_loop [8] (fun i => ∃ k : Nat, i = .int .i64 k ∧ n ≤ k ∧ k ≤ J.size ∧ Hid (∀ i, n ≤ i → i < k → ∃ c, J.data.toList[i]? = some c ∧ c.toNat = 0)) (fun i => J.size - (intOf i).toNat)
      case atStart => exact ⟨n, rfl, Nat.le_refl _, hn, fun i h1 h2 => absurd h2 (by omega)⟩
      case round =>
        obtain ⟨k, rfl, hk0, hk, H⟩ := hrel
        by_cases hlt2 : k < J.size
        · have hb : J[k].toNat < 256 := J[k].toNat_lt
          by_cases hz : J[k].toNat = 0
          · have HN : Hid (∀ i, n ≤ i → i < k + 1 → ∃ c, J.data.toList[i]? = some c ∧ c.toNat = 0) := by
              intro i h1 h2
              by_cases e : i = k
              · subst e; exact ⟨_, byte_get hlt2, hz⟩
              · exact H.out i h1 (by omega)
            have hzz : ((J[k].toNat : Int) != 0) = false := by rw [hz]; rfl
            have k0 : (0 : Int) ≤ (k : Int) := by omega
            have k1 : (k : Int) < (J.size : Int) := by omega
            clear H
            go_wp2_with fail
            go_round
            case rel => exact ⟨k + 1, by go_num, by omega, by omega, HN.out⟩
            case measure => simp [intOf]; omega
          · have hT := Lib.hid (tailOk_not hk0 hlt2 hz)
            have hzz : ((J[k].toNat : Int) != 0) = true := bne_iff_ne.2 (by omega)
            clear H hz
            go_wp2_with fail
            go_ret2
            exact ⟨by rw [HS.out, hT.out]; rfl, rfl⟩
        · have hT := Lib.hid (tailOk_of (J := J) (n := n) (fun i h1 h2 => H.out i h1 (by omega)))
          clear H
          go_wp2_with fail
          go_ret2
          exact ⟨by rw [HS.out, hT.out]; rfl, rfl⟩
end Go.Proofs.YtkfmkbmlhhdbpaaDoor
