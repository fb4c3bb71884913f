/- matrix.Lanes as a call; matrix.Apply, walked. -/
import Derived.Test.YtibinkppbdeofaaPk13LawMatrixLanes
import Derived.Test.YtibinkppbdeofaaPk09LawMatrixLanes
import Derived.Test.YtibinkppbdeofaaPk04LawMatrixLanes
import Derived.Test.YtibinkppbdeofaaPk00LawMatrixLanes
namespace Go.Proofs.Ytibinkppbdeofaa
open Go.ChangeShapes Go.WideShapes Go.ChangeAt Go.RowKit Go.Joins
set_option linter.unusedVariables false
set_option linter.unusedSimpArgs false

theorem lanes_any (ra ca n : Nat) (ba oa na ka : Nat) (vl : Value) (ms : List Nat) (l : List ByteArray) (w : World)
    (ha : BytesV w (.slice (some ⟨ba, oa, none⟩) na ka) ms) (hl : Strs6 w vl l) (hla : ms.length = ra * ca) (hll : l.length = ca) (hln : ∀ s ∈ l, s.size = n) (hn : n ≤ 8192)
    (h1 : 1 ≤ ra) (h2 : ra ≤ 16) (h3 : 1 ≤ ca) (h4 : ca ≤ 16) (hka : na ≤ ka) (hka2 : ka ≤ 9223372036854775807) :
    Calls Try.prog 53 #[matV (ra : Int) (ca : Int) (.slice (some ⟨ba, oa, none⟩) na ka), vl] w fun e w' =>
      ∃ r, e = .returned r ∧ w'.ownsRow w.heap.size 9 1 r ra ((applyL ms l ra ca n).map Value.string) ∧ Below w.heap.size w w' :=
  callsIn_wide.1 (lanes_in ra ca n ba oa na ka vl ms l w ha hl hla hll hln hn h1 h2 h3 h4 hka hka2)

theorem mayGo_ok {f : Nat} : ∀ (L : List ByteArray) (e : Int), (∀ s ∈ L, s.size ≤ 8192 ∧ s.size = f) → mayGo f L e = e
  | [], e, _ => rfl
  | s :: r, e, h => by
    have hs := h s (by simp)
    rw [mayGo, if_neg (by omega), if_pos hs.2]
    exact mayGo_ok r e fun x hx => h x (by simp [hx])
theorem mayN_ok {L : List ByteArray} {n : Nat} (h0 : 0 < L.length) (h : ∀ s ∈ L, s.size = n) (hn : n ≤ 8192) : mayN L = 0 := by
  have e : (L.getD 0 ByteArray.empty).size = n := by
    rw [← List.getElem_eq_getD (h := h0)]; exact h _ (List.getElem_mem _)
  exact mayGo_ok L 0 fun s hs => by rw [h s hs, e]; exact ⟨hn, rfl⟩
theorem mayGo_all' (f : Nat) : ∀ (L : List ByteArray) (e : Int), mayGo f L e = 0 → e = 0 ∧ ∀ s ∈ L, s.size ≤ 8192 ∧ s.size = f
  | [], e, h => ⟨h, fun s hs => absurd hs (by simp)⟩
  | s :: r, e, h => by
    rw [mayGo] at h
    split at h
    · omega
    · obtain ⟨h1, h2⟩ := mayGo_all' f r _ h
      split at h1
      · refine ⟨h1, fun x hx => ?_⟩
        rcases List.mem_cons.1 hx with rfl | hx
        · exact ⟨by omega, by assumption⟩
        · exact h2 x hx
      · omega
theorem mayN_all {L : List ByteArray} (h : mayN L = 0) : ∀ s ∈ L, s.size = (L.getD 0 ByteArray.empty).size ∧ s.size ≤ 8192 := fun s hs =>
  ⟨((mayGo_all' _ L 0 h).2 s hs).2, ((mayGo_all' _ L 0 h).2 s hs).1⟩

set_option maxRecDepth 100000 in
set_option maxHeartbeats 1000000 in
theorem apply_yes (ra n : Nat) (ba oa ka : Nat) (vl : Value) (ms : List Nat) (l : List ByteArray) (w : World)
    (ha : BytesV w (.slice (some ⟨ba, oa, none⟩) ms.length ka) ms) (hl : Strs6 w vl l) (hla : ms.length = ra * l.length) (hln : ∀ s ∈ l, s.size = n) (hn : n ≤ 8192)
    (h1 : 1 ≤ ra) (h2 : ra ≤ 16) (h3 : 1 ≤ l.length) (h4 : l.length ≤ 16) (hka : ms.length ≤ ka) (hka2 : ka ≤ 9223372036854775807) :
    Calls Try.prog 32 #[matV (ra : Int) (l.length : Int) (.slice (some ⟨ba, oa, none⟩) ms.length ka), vl] w fun e w' =>
      ∃ r, e = .returned (.tuple #[r, .int .i64 0]) ∧ w'.ownsRow w.heap.size 9 1 r ra ((applyL ms l ra l.length n).map Value.string) ∧ Below w.heap.size w w' := by
  have HMA := Lib.hid (mayM_of h1 h2 h3 h4 hla)
  have HMN := Lib.hid (mayN_ok (by omega) hln hn)
  have tA := Three.new w (.int .i64 (ra : Int)) (.int .i64 (l.length : Int)) (.slice (some ⟨ba, oa, none⟩) ms.length ka) 30
  have hbe := (Below.refl w.heap.size w).alloc (Nat.le_refl _) (.cells #[.int .i64 (ra : Int), .int .i64 (l.length : Int), .slice (some ⟨ba, oa, none⟩) ms.length ka] 30)
  obtain ⟨o, ho⟩ : ∃ o, o = (Obj.cells #[.int .i64 (ra : Int), .int .i64 (l.length : Int), .slice (some ⟨ba, oa, none⟩) ms.length ka] 30) := ⟨_, rfl⟩
  rw [← ho] at tA hbe
  have HTA := Lib.hid tA
  have HBE := Lib.hid hbe
  have HA := Lib.hid (ha.below hbe)
  have HL := Lib.hid (hl.below hbe)
  have HLA := Lib.hid hla
  have HLN := Lib.hid hln
  obtain ⟨Al, kl, rfl⟩ := hl.shape
  obtain ⟨a0, a1, a2, _, _, _⟩ := tA
  rw [ho] at a0 a1 a2
  clear ha hl hla hln hbe
  unfold matV
  go_enter Try.func32, Try.ntmps32
  go_wp2_with fail
  rw [← ho]
  clear a0 a1 a2 ho
  generalize w.alloc o = W0 at *
  have hma : ms.length ≤ 9223372036854775807 := by omega
  have HC := mayM_any (ra : Int) (l.length : Int) (some ⟨ba, oa, none⟩) ms.length ka W0 hma
  unfold matV at HC
  refine HC.mono ?_
  rintro e w1 ⟨rfl, hb1⟩
  clear HC
  rw [HMA.out]
  obtain ⟨a0, a1, a2, _, _, _⟩ := HTA.out.below hb1
  have HA1 := Lib.hid (HA.out.below hb1)
  have HL1 := Lib.hid (HL.out.below hb1)
  have HT1 := Lib.hid (HTA.out.below hb1)
  have HB1 := Lib.hid (HBE.out.trans (hb1.mono HBE.out.size))
  clear HA HL HTA HBE hb1
  go_wp2_with fail
  refine (may_any _ l _ HL1.out (by omega)).mono ?_
  rintro e w2 ⟨rfl, hb2⟩
  rw [HMN.out]
  clear a0 a1 a2
  obtain ⟨a0, a1, a2, _, _, _⟩ := HT1.out.below hb2
  have HA2 := Lib.hid (HA1.out.below hb2)
  have HL2 := Lib.hid (HL1.out.below hb2)
  have HB2 := Lib.hid (cum2 HB1.out hb2)
  clear HA1 HL1 HT1 HB1 hb2
  go_wp2_with fail
  have HC := lanes_any ra l.length n ba oa ms.length ka (.slice Al l.length kl) ms l w2 HA2.out HL2.out HLA.out rfl HLN.out hn h1 h2 h3 h4 hka hka2
  unfold matV at HC
  refine HC.mono ?_
  rintro e w3 ⟨r, rfl, hown, hb3⟩
  have HO := Lib.hid (own_base hown HB2.out.size)
  have HB3 := Lib.hid (cum2 HB2.out hb3)
  clear hown hb3 HC a0 a1 a2
  go_wp2_with fail
  go_ret2
  exact ⟨_, rfl, HO.out, HB3.out⟩

set_option maxRecDepth 100000 in
set_option maxHeartbeats 1000000 in
theorem apply_bad (ra : Nat) (ba oa ka : Nat) (vl : Value) (ms : List Nat) (l : List ByteArray) (w : World)
    (ha : BytesV w (.slice (some ⟨ba, oa, none⟩) ms.length ka) ms) (hl : Strs6 w vl l) (hla : ms.length = ra * l.length) (hm : mayN l ≠ 0)
    (h1 : 1 ≤ ra) (h2 : ra ≤ 16) (h3 : 1 ≤ l.length) (h4 : l.length ≤ 16) (hka : ms.length ≤ ka) (hka2 : ka ≤ 9223372036854775807) :
    Calls Try.prog 32 #[matV (ra : Int) (l.length : Int) (.slice (some ⟨ba, oa, none⟩) ms.length ka), vl] w fun e w' =>
      e = .returned (.tuple #[.slice none 0 0, .int .i64 (mayN l)]) ∧ Below w.heap.size w w' := by
  have HMA := Lib.hid (mayM_of h1 h2 h3 h4 hla)
  obtain ⟨mn, hmn⟩ : ∃ mn, mn = mayN l := ⟨_, rfl⟩
  rw [← hmn] at hm ⊢
  have hne : (mn != 0) = true := by rw [bne_iff_ne]; exact hm
  have HMN := Lib.hid hmn
  have tA := Three.new w (.int .i64 (ra : Int)) (.int .i64 (l.length : Int)) (.slice (some ⟨ba, oa, none⟩) ms.length ka) 30
  have hbe := (Below.refl w.heap.size w).alloc (Nat.le_refl _) (.cells #[.int .i64 (ra : Int), .int .i64 (l.length : Int), .slice (some ⟨ba, oa, none⟩) ms.length ka] 30)
  obtain ⟨o, ho⟩ : ∃ o, o = (Obj.cells #[.int .i64 (ra : Int), .int .i64 (l.length : Int), .slice (some ⟨ba, oa, none⟩) ms.length ka] 30) := ⟨_, rfl⟩
  rw [← ho] at tA hbe
  have HTA := Lib.hid tA
  have HBE := Lib.hid hbe
  have HL := Lib.hid (hl.below hbe)
  obtain ⟨Al, kl, rfl⟩ := hl.shape
  obtain ⟨a0, a1, a2, _, _, _⟩ := tA
  rw [ho] at a0 a1 a2
  clear ha hl hla hbe hmn hm
  unfold matV
  go_enter Try.func32, Try.ntmps32
  go_wp2_with fail
  rw [← ho]
  clear a0 a1 a2 ho
  generalize w.alloc o = W0 at *
  have hma : ms.length ≤ 9223372036854775807 := by omega
  have HC := mayM_any (ra : Int) (l.length : Int) (some ⟨ba, oa, none⟩) ms.length ka W0 hma
  unfold matV at HC
  refine HC.mono ?_
  rintro e w1 ⟨rfl, hb1⟩
  clear HC
  rw [HMA.out]
  obtain ⟨a0, a1, a2, _, _, _⟩ := HTA.out.below hb1
  have HL1 := Lib.hid (HL.out.below hb1)
  have HB1 := Lib.hid (HBE.out.trans (hb1.mono HBE.out.size))
  clear HL HTA HBE hb1
  go_wp2_with fail
  refine (may_any _ l _ HL1.out (by omega)).mono ?_
  rintro e w2 ⟨rfl, hb2⟩
  rw [← HMN.out]
  have HB2 := Lib.hid (cum2 HB1.out hb2)
  clear a0 a1 a2 HL1 HB1 hb2 HMN
  go_wp2_with fail
  go_ret2
  exact ⟨rfl, HB2.out⟩

set_option maxRecDepth 100000 in
set_option maxHeartbeats 1000000 in
theorem apply_no (R C : Int) (A Al : Option Addr) (nm k n kl : Nat) (w : World) (hn : nm ≤ 9223372036854775807) (h : mayM R C nm = false ∨ (n : Int) ≠ C) :
    Calls Try.prog 32 #[matV R C (.slice A nm k), .slice Al n kl] w fun e w' =>
      e = .returned (.tuple #[.slice none 0 0, .int .i64 1]) ∧ Below w.heap.size w w' := by
  have tA := Three.new w (.int .i64 R) (.int .i64 C) (.slice A nm k) 30
  have hbe := (Below.refl w.heap.size w).alloc (Nat.le_refl _) (.cells #[.int .i64 R, .int .i64 C, .slice A nm k] 30)
  obtain ⟨o, ho⟩ : ∃ o, o = (Obj.cells #[.int .i64 R, .int .i64 C, .slice A nm k] 30) := ⟨_, rfl⟩
  rw [← ho] at tA hbe
  have HTA := Lib.hid tA
  have HBE := Lib.hid hbe
  obtain ⟨a0, a1, a2, _, _, _⟩ := tA
  rw [ho] at a0 a1 a2
  have HH := Lib.hid h
  clear hbe h
  unfold matV
  go_enter Try.func32, Try.ntmps32
  go_wp2_with fail
  rw [← ho]
  clear a0 a1 a2 ho
  generalize w.alloc o = W0 at *
  have HC := mayM_any R C A nm k W0 hn
  unfold matV at HC
  refine HC.mono ?_
  rintro e w1 ⟨rfl, hb1⟩
  clear HC
  obtain ⟨a0, a1, a2, _, _, _⟩ := HTA.out.below hb1
  have HB1 := Lib.hid (HBE.out.trans (hb1.mono HBE.out.size))
  clear HTA HBE hb1
  cases hb : mayM R C nm
  · go_wp2_with fail
    go_ret2
    exact ⟨rfl, HB1.out⟩
  · have hne : ((n : Int) != C) = true := by
      rw [bne_iff_ne]
      rcases HH.out with h | h
      · rw [hb] at h; cases h
      · exact h
    clear hb
    go_wp2_with fail
    go_ret2
    exact ⟨rfl, HB1.out⟩
end Go.Proofs.Ytibinkppbdeofaa

/- Two lists of texts that are one. -/

namespace Go.Proofs.Ytibinkppbdeofaa
open Go.ChangeShapes Go.WideShapes Go.ChangeAt Go.RowKit Go.Joins
set_option linter.unusedVariables false
set_option linter.unusedSimpArgs false

set_option maxRecDepth 100000 in
set_option maxHeartbeats 1000000 in
theorem eqStrs6_yes (va vb : Value) (l : List ByteArray) (w : World) (ha : Strs6 w va l) (hb : Strs6 w vb l) (hm : l.length ≤ 9000000000000000000) :
    Calls Try.prog 35 #[va, vb] w fun e w' => e = .returned (.bool true) ∧ Below w.heap.size w w' := by
  have HA := Lib.hid ha
  have HB := Lib.hid hb
  obtain ⟨Aa, ka, rfl⟩ := ha.shape
  obtain ⟨Ab, kb, rfl⟩ := hb.shape
  clear ha hb
  go_enter Try.func35, Try.ntmps35
  go_wp2_with fail
  go_loopw [5] (fun i wr => ∃ k : Nat, i = .int .i64 k ∧ k ≤ l.length ∧ Below w.heap.size w wr) (fun i _ => l.length - (intOf i).toNat)
  case atStart => exact ⟨0, rfl, by omega, Below.refl _ _⟩
  case round =>
    obtain ⟨k, rfl, hk, hwr⟩ := hrel
    by_cases hlt : k < l.length
    · obtain ⟨ba, oa, rfl, _, a0⟩ := (HA.out.below hwr).at_ hlt
      obtain ⟨bb, ob, rfl, _, b0⟩ := (HB.out.below hwr).at_ hlt
      generalize l[k]'hlt = s at a0 b0
      go_wp2_with fail
      go_quiet (fail)
      all_goals
        go_wp2_with fail
        go_roundw
        case rel => exact ⟨k + 1, by go_num, by omega, below_drewN hwr _⟩
        case measure => simp [intOf]; omega
    · go_wp2_with fail
      go_ret
      exact ⟨rfl, hwr⟩
end Go.Proofs.Ytibinkppbdeofaa
