/- What parts take of texts: Take, walked, whatever the parts. -/
import Derived.Test.YtgbgignnjpcncaaTake
namespace Go.Proofs.Ytgbgignnjpcncaa
open Go.ChangeShapes Go.WideShapes Go.ChangeAt Go.RowKit Go.Joins
set_option linter.unusedVariables false
set_option linter.unusedSimpArgs false

set_option maxRecDepth 100000 in
set_option maxHeartbeats 4000000 in
theorem take_any (va vb : Value) (L : List ByteArray) (x : List T3) (w : World) (ha : StrsIn w va L) (hb : ThreesIn w vb x) (hM : ∀ s ∈ L, s.size ≤ 4000) (hx : x.length ≤ 4000) :
    Calls Try.prog 17 #[va, vb] w fun e w' => e = .returned (.tuple #[.string (takeS L x), .int .i64 (takeE L x)]) ∧ Below w.heap.size w w' := by
  have HA := Lib.hid ha
  have HB := Lib.hid hb
  have HM := Lib.hid hM
  obtain ⟨Aa, ka, rfl⟩ := ha.len
  obtain ⟨Ab, kb, rfl⟩ := hb.len
  clear ha hb hM
  go_enter Try.func17, Try.ntmps17
  go_wp2_with fail
  go_loopw [11] (fun i wr => ∃ (k : Nat), i = .int .i64 k ∧ Bld w.heap.size w.heap.size (Lib.byteCells (taken L (x.take k)).data.toList) wr ∧ k ≤ x.length ∧ Hid (allOk L (x.take k) = true) ∧ Below w.heap.size w wr) (fun i _ => x.length - (intOf i).toNat)
  case atStart => exact ⟨0, rfl, Lib.fresh_isBuilder _ _ w, by omega, rfl, (Below.refl _ _).alloc (Nat.le_refl _) _⟩
  case round =>
    obtain ⟨k, rfl, hbld, hk, HOK, hwr⟩ := hrel
    obtain ⟨wo, rfl⟩ : ∃ wo : World, wo = wr := ⟨_, rfl⟩
    have HBL := Lib.hid hbld
    clear hbld
    by_cases hlt : k < x.length
    · obtain ⟨bb, ob, cb, eb, p, hp, b0, b1, b2⟩ := (HB.out.below hwr).at_ hlt
      cases eb
      cases hpo : partOk L p
      · have hbad := allOk_bad hp hpo
        have eS : takeS L x = ByteArray.empty := by simp [takeS, hbad]
        have eE : takeE L x = 1 := by simp [takeE, hbad]
        obtain ⟨px, py, pz⟩ := p
        simp only at b0 b1 b2
        simp only [partOk, decide_eq_false_iff_not] at hpo
        have HPO := Lib.hid hpo
        have hbel := hwr.alloc hwr.size (.cells #[.int .i64 px, .int .i64 py, .int .i64 pz] 54)
        clear hpo hbad HBL
        by_cases c1 : px < 0
        · have d1 : decide (px < 0) = true := by simp; omega
          go_wp2_with fail
          go_quiet (fail)
          go_wp2_with fail
          go_ret2
          exact ⟨by first | (rw [eS, eE]; done) | (rw [eS, eE]; rfl), below_drewN hbel _⟩
        have d1 : decide (px < 0) = false := by simp; omega
        by_cases c2 : (L.length : Int) ≤ px
        · have d2 : decide ((L.length : Int) ≤ px) = true := by simp; omega
          go_wp2_with fail
          go_quiet (fail)
          go_wp2_with fail
          go_ret2
          exact ⟨by first | (rw [eS, eE]; done) | (rw [eS, eE]; rfl), below_drewN hbel _⟩
        have d2 : decide ((L.length : Int) ≤ px) = false := by simp; omega
        by_cases c3 : py < 0
        · have d3 : decide (py < 0) = true := by simp; omega
          go_wp2_with fail
          go_quiet (fail)
          go_wp2_with fail
          go_ret2
          exact ⟨by first | (rw [eS, eE]; done) | (rw [eS, eE]; rfl), below_drewN hbel _⟩
        have d3 : decide (py < 0) = false := by simp; omega
        by_cases c4 : pz < py
        · have d4 : decide (pz < py) = true := by simp; omega
          go_wp2_with fail
          go_quiet (fail)
          go_wp2_with fail
          go_ret2
          exact ⟨by first | (rw [eS, eE]; done) | (rw [eS, eE]; rfl), below_drewN hbel _⟩
        have d4 : decide (pz < py) = false := by simp; omega
        obtain ⟨a, rfl⟩ : ∃ a : Nat, px = (a : Int) := ⟨px.toNat, by omega⟩
        have haL : a < L.length := by omega
        obtain ⟨ba, oa, ca, ea, s, hs, a0⟩ := (HA.out.below hwr).at_ haL
        cases ea
        have i0 : (0 : Int) ≤ (a : Int) := by omega
        have i1 : (a : Int) < (L.length : Int) := by omega
        have c5 : (s.size : Int) < pz := by
          have h := HPO.out
          have e : L.getD a ByteArray.empty = s := by rw [List.getD, hs]; rfl
          rw [Int.toNat_natCast, e] at h
          omega
        have d5 : decide ((s.size : Int) < pz) = true := by simp; omega
        have a1 : (wo.alloc (.cells #[.int .i64 (a : Int), .int .i64 py, .int .i64 pz] 54)).cell? ⟨ba, oa + a, none⟩ = some (.string s) := below_celllt a0 (cell_block a0) ((Below.refl _ _).alloc (Nat.le_refl _) _)
        have t0 : (wo.alloc (.cells #[.int .i64 (a : Int), .int .i64 py, .int .i64 pz] 54)).cell? ⟨wo.heap.size, 0, none⟩ = some (.int .i64 (a : Int)) := by simp [go_sem]
        have t1 : (wo.alloc (.cells #[.int .i64 (a : Int), .int .i64 py, .int .i64 pz] 54)).cell? ⟨wo.heap.size, 1, none⟩ = some (.int .i64 py) := by simp [go_sem]
        have t2 : (wo.alloc (.cells #[.int .i64 (a : Int), .int .i64 py, .int .i64 pz] 54)).cell? ⟨wo.heap.size, 2, none⟩ = some (.int .i64 pz) := by simp [go_sem]
        go_wp2_with fail
        generalize wo.alloc (.cells #[.int .i64 (a : Int), .int .i64 py, .int .i64 pz] 54) = V at *
        go_quiet (fail)
        go_wp2_with fail
        go_ret2
        exact ⟨by first | (rw [eS, eE]; done) | (rw [eS, eE]; rfl), below_drewN hbel _⟩
      obtain ⟨a, lo, hi, rfl, s, hs, h1, h2, hpc⟩ := partOk_nat hpo
      simp only at b0 b1 b2
      have haL : a < L.length := (List.getElem?_eq_some_iff.1 hs).1
      obtain ⟨ba, oa, ca, ea, s', hs', a0⟩ := (HA.out).at_ haL
      rw [hs] at hs'
      cases hs'
      cases ea
      have hblk : ba < w.heap.size := cell_block a0
      have hT1 : (taken L (x.take k)).size ≤ 16000000 := by
        have := taken_size HM.out (x.take k)
        rw [List.length_take] at this
        have h4 : min k x.length * 4000 ≤ 4000 * 4000 := Nat.mul_le_mul_right _ (by omega)
        omega
      have hs1 : s.size ≤ 4000 := HM.out s (List.mem_of_getElem? hs)
      have hp1 : (s.extract lo hi).size ≤ 4000 := by rw [ByteArray.size_extract]; omega
      have HT1 := Lib.hid hT1
      have HP1 := Lib.hid hp1
      clear hT1 hp1
      have i0 : (0 : Int) ≤ (a : Int) := by omega
      have i1 : (a : Int) < (L.length : Int) := by omega
      have i2 : (0 : Int) ≤ (lo : Int) := by omega
      have i3 : (lo : Int) ≤ (hi : Int) := by omega
      have i4 : (hi : Int) ≤ (s.size : Int) := by omega
      have HP := Lib.hid hpc
      clear hpc
      have d1 : decide ((L.length : Int) ≤ (a : Int)) = false := by simp; omega
      have d2 : decide ((hi : Int) < (lo : Int)) = false := by simp; omega
      have d3 : decide ((s.size : Int) < (hi : Int)) = false := by simp; omega
      go_wp2_with fail
      have hbox : (wo.alloc (.cells #[.int .i64 a, .int .i64 lo, .int .i64 hi] 54)).heap[wo.heap.size]? = some (.cells #[.int .i64 a, .int .i64 lo, .int .i64 hi] 54 (0, 0)) := Array.getElem?_push_size
      have HBV := Lib.hid (HBL.out.alloc (.cells #[.int .i64 a, .int .i64 lo, .int .i64 hi] 54))
      have hwV : Below w.heap.size w (wo.alloc (.cells #[.int .i64 a, .int .i64 lo, .int .i64 hi] 54)) := hwr.alloc hwr.size _
      have hBp : w.heap.size < wo.heap.size := HBL.out.lt
      generalize wo.alloc (.cells #[.int .i64 a, .int .i64 lo, .int .i64 hi] 54) = V at *
      generalize wo.heap.size = Bp at *
      have t0 : V.cell? ⟨Bp, 0, none⟩ = some (.int .i64 a) := by rw [Lib.cell_of_heap hbox]; rfl
      have t1 : V.cell? ⟨Bp, 1, none⟩ = some (.int .i64 lo) := by rw [Lib.cell_of_heap hbox]; rfl
      have t2 : V.cell? ⟨Bp, 2, none⟩ = some (.int .i64 hi) := by rw [Lib.cell_of_heap hbox]; rfl
      have a1 : V.cell? ⟨ba, oa + a, none⟩ = some (.string s) := below_celllt a0 hblk hwV
      clear b0 b1 b2
      go_quiet (fail)
      have hwV2 := below_drewN hwV nq
      have HBV2 := Lib.hid (Bld.drewN HBV.out nq)
      have hbox2 : (V.drewN nq).heap[Bp]? = some (.cells #[.int .i64 a, .int .i64 lo, .int .i64 hi] 54 (0, 0)) := hbox
      have t0' : (V.drewN nq).cell? ⟨Bp, 0, none⟩ = some (.int .i64 a) := t0
      have t1' : (V.drewN nq).cell? ⟨Bp, 1, none⟩ = some (.int .i64 lo) := t1
      have t2' : (V.drewN nq).cell? ⟨Bp, 2, none⟩ = some (.int .i64 hi) := t2
      have a1' : (V.drewN nq).cell? ⟨ba, oa + a, none⟩ = some (.string s) := a1
      generalize V.drewN nq = V2 at *
      clear t0 t1 t2 a1 hbox hwV HBV HBL hwr
      have hKK : ∀ W', Below w.heap.size V2.drew W' → Lib.OthersKept 5 (some w.heap.size) V2.drew W' → (W'.cell? ⟨Bp, 0, none⟩ = some (.int .i64 a) ∧ W'.cell? ⟨Bp, 1, none⟩ = some (.int .i64 lo) ∧ W'.cell? ⟨Bp, 2, none⟩ = some (.int .i64 hi) ∧ W'.cell? ⟨ba, oa + a, none⟩ = some (.string s)) := by
        intro W' h1 h2
        have hb := h2 Bp _ hbox2 (by simp; omega) (by intro c fz e; cases e)
        exact ⟨by rw [Lib.cell_of_heap hb]; rfl, by rw [Lib.cell_of_heap hb]; rfl, by rw [Lib.cell_of_heap hb]; rfl, (h1.cell (p := ⟨ba, oa + a, none⟩) hblk).trans a1'⟩
      have HK := Lib.hid hKK
      clear hKK hbox2
      have hlen : (Lib.byteCells (taken L (x.take k)).data.toList).length + (s.extract lo hi).size ≤ 140737488355328 := by
        rw [Lib.byteCells_length]
        have h1 := HT1.out
        have h2 := HP1.out
        have h3 : (taken L (x.take k)).data.toList.length = (taken L (x.take k)).size := by rw [Array.length_toList]; rfl
        omega
      have HLN := Lib.hid hlen
      clear hlen
      have hsz2 := hwV2.size
      go_wp2_with fail
      go_region_held3 (fun W' => W'.cell? ⟨Bp, 0, none⟩ = some (.int .i64 a) ∧ W'.cell? ⟨Bp, 1, none⟩ = some (.int .i64 lo) ∧ W'.cell? ⟨Bp, 2, none⟩ = some (.int .i64 hi) ∧ W'.cell? ⟨ba, oa + a, none⟩ = some (.string s)) (first | go_keep | exact HK.out _ (by assumption) (by assumption))
        (first | (go_at_call 24; refine (writeString_any w.heap.size w.heap.size _ _ _ (Bld.drew HBV2.out) HLN.out hsz2).mono ?_; rintro e w5 ⟨rfl, hbd, hbs, hks⟩))
      all_goals
        have hw5 := hwV2.trans ((show Below w.heap.size V2 V2.drew from ⟨rfl, rfl, rfl, Nat.le_refl _, fun _ _ => rfl⟩).trans hbs)
        have HB5 := Lib.hid hbd
        clear hbd hbs hks HK
        go_wp2_with fail
        go_roundw
        case rel =>
          refine ⟨k + 1, by go_num, ?_, by omega, by rw [Hid, allOk_take hp, HOK.out, hpo]; rfl, hw5⟩
          have := HB5.out
          rw [strCells_eq, ← Lib.byteCells_append] at this
          rw [taken_take hp, HP.out, bytes_append]
          exact this
        case measure => simp [intOf]; omega
    · go_wp2_with fail
      refine (builderString_any w.heap.size w.heap.size _ _ HBL.out hwr.size).mono ?_
      rintro e w3 ⟨rfl, hb3⟩
      have hx3 := hwr.trans hb3
      clear hb3
      have hok := HOK.out
      rw [List.take_of_length_le (by omega)] at hok
      have eS : takeS L x = taken L x := by simp [takeS, hok]
      have eE : takeE L x = 0 := by simp [takeE, hok]
      go_wp2_with fail
      go_ret2
      exact ⟨by first | (rw [eS, eE, List.take_of_length_le (by omega)]; done) | (rw [eS, eE, List.take_of_length_le (by omega)]; rfl), hx3⟩
end Go.Proofs.Ytgbgignnjpcncaa
