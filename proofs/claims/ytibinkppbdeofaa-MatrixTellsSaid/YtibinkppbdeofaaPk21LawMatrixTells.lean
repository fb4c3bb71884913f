/- matrix.Lanes as a call; matrix.Apply, walked. -/
import Derived.Test.YtibinkppbdeofaaPk13LawMatrixTells
import Derived.Test.YtibinkppbdeofaaPk09LawMatrixTells
import Derived.Test.YtibinkppbdeofaaPk04LawMatrixTells
import Derived.Test.YtibinkppbdeofaaPk18LawMatrixTells
import Derived.Test.YtibinkppbdeofaaPk05LawMatrixTells
namespace Go.Proofs.Ytibinkppbdeofaa
open Go.ChangeShapes Go.WideShapes Go.ChangeAt Go.RowKit Go.Joins
set_option linter.unusedVariables false
set_option linter.unusedSimpArgs false

theorem lanes_any (ra ca n : Nat) (ba oa na ka : Nat) (vl : Value) (ms : List Nat) (l : List ByteArray) (w : World)
    (ha : BytesV w (.slice (some ⟨ba, oa, none⟩) na ka) ms) (hl : Strs6 w vl l) (hla : ms.length = ra * ca) (hll : l.length = ca) (hln : ∀ s ∈ l, s.size = n) (hn : n ≤ 8192)
    (h1 : 1 ≤ ra) (h2 : ra ≤ 16) (h3 : 1 ≤ ca) (h4 : ca ≤ 16) (hka : na ≤ ka) (hka2 : ka ≤ 9223372036854775807) :
    Calls Try.prog 53 #[matV (ra : Int) (ca : Int) (.slice (some ⟨ba, oa, none⟩) na ka), vl] w fun e w' =>
      ∃ r, e = .returned r ∧ w'.ownsRow w.heap.size 9 1 r ra ((applyL ms l ra ca n).map Value.string) ∧ Below w.heap.size w w' :=
  callsIn_wide.1 (lanes_in ra ca n ba oa na ka vl ms l w ha hl hla hll hln hn h1 h2 h3 h4 hka hka2)

theorem mayGo_ok {f : Nat} : ∀ (L : List ByteArray) (e : Int), (∀ s ∈ L, s.size ≤ 8192 ∧ s.size = f) → mayGo f L e = e
  | [], e, _ => rfl
  | s :: r, e, h => by
    have hs := h s (by simp)
    rw [mayGo, if_neg (by omega), if_pos hs.2]
    exact mayGo_ok r e fun x hx => h x (by simp [hx])
theorem mayN_ok {L : List ByteArray} {n : Nat} (h0 : 0 < L.length) (h : ∀ s ∈ L, s.size = n) (hn : n ≤ 8192) : mayN L = 0 := by
  have e : (L.getD 0 ByteArray.empty).size = n := by
    rw [← List.getElem_eq_getD (h := h0)]; exact h _ (List.getElem_mem _)
  exact mayGo_ok L 0 fun s hs => by rw [h s hs, e]; exact ⟨hn, rfl⟩
theorem mayGo_all' (f : Nat) : ∀ (L : List ByteArray) (e : Int), mayGo f L e = 0 → e = 0 ∧ ∀ s ∈ L, s.size ≤ 8192 ∧ s.size = f
  | [], e, h => ⟨h, fun s hs => absurd hs (by simp)⟩
  | s :: r, e, h => by
    rw [mayGo] at h
    split at h
    · omega
    · obtain ⟨h1, h2⟩ := mayGo_all' f r _ h
      split at h1
      · refine ⟨h1, fun x hx => ?_⟩
        rcases List.mem_cons.1 hx with rfl | hx
        · exact ⟨by omega, by assumption⟩
        · exact h2 x hx
      · omega
theorem mayN_all {L : List ByteArray} (h : mayN L = 0) : ∀ s ∈ L, s.size = (L.getD 0 ByteArray.empty).size ∧ s.size ≤ 8192 := fun s hs =>
  ⟨((mayGo_all' _ L 0 h).2 s hs).2, ((mayGo_all' _ L 0 h).2 s hs).1⟩

set_option maxRecDepth 100000 in
set_option maxHeartbeats 1000000 in
theorem apply_yes (ra n : Nat) (ba oa ka : Nat) (vl : Value) (ms : List Nat) (l : List ByteArray) (w : World)
    (ha : BytesV w (.slice (some ⟨ba, oa, none⟩) ms.length ka) ms) (hl : Strs6 w vl l) (hla : ms.length = ra * l.length) (hln : ∀ s ∈ l, s.size = n) (hn : n ≤ 8192)
    (h1 : 1 ≤ ra) (h2 : ra ≤ 16) (h3 : 1 ≤ l.length) (h4 : l.length ≤ 16) (hka : ms.length ≤ ka) (hka2 : ka ≤ 9223372036854775807) :
    Calls Try.prog 32 #[matV (ra : Int) (l.length : Int) (.slice (some ⟨ba, oa, none⟩) ms.length ka), vl] w fun e w' =>
      ∃ r, e = .returned (.tuple #[r, .int .i64 0]) ∧ w'.ownsRow w.heap.size 9 1 r ra ((applyL ms l ra l.length n).map Value.string) ∧ Below w.heap.size w w' := by
  have HMA := Lib.hid (mayM_of h1 h2 h3 h4 hla)
  have HMN := Lib.hid (mayN_ok (by omega) hln hn)
  have tA := Three.new w (.int .i64 (ra : Int)) (.int .i64 (l.length : Int)) (.slice (some ⟨ba, oa, none⟩) ms.length ka) 30
  have hbe := (Below.refl w.heap.size w).alloc (Nat.le_refl _) (.cells #[.int .i64 (ra : Int), .int .i64 (l.length : Int), .slice (some ⟨ba, oa, none⟩) ms.length ka] 30)
  obtain ⟨o, ho⟩ : ∃ o, o = (Obj.cells #[.int .i64 (ra : Int), .int .i64 (l.length : Int), .slice (some ⟨ba, oa, none⟩) ms.length ka] 30) := ⟨_, rfl⟩
  rw [← ho] at tA hbe
  have HTA := Lib.hid tA
  have HBE := Lib.hid hbe
  have HA := Lib.hid (ha.below hbe)
  have HL := Lib.hid (hl.below hbe)
  have HLA := Lib.hid hla
  have HLN := Lib.hid hln
  obtain ⟨Al, kl, rfl⟩ := hl.shape
  obtain ⟨a0, a1, a2, _, _, _⟩ := tA
  rw [ho] at a0 a1 a2
  clear ha hl hla hln hbe
  unfold matV
  go_enter Try.func32, Try.ntmps32
  go_wp2_with fail
  rw [← ho]
  clear a0 a1 a2 ho
  generalize w.alloc o = W0 at *
  have hma : ms.length ≤ 9223372036854775807 := by omega
  have HC := mayM_any (ra : Int) (l.length : Int) (some ⟨ba, oa, none⟩) ms.length ka W0 hma
  unfold matV at HC
  refine HC.mono ?_
  rintro e w1 ⟨rfl, hb1⟩
  clear HC
  rw [HMA.out]
  obtain ⟨a0, a1, a2, _, _, _⟩ := HTA.out.below hb1
  have HA1 := Lib.hid (HA.out.below hb1)
  have HL1 := Lib.hid (HL.out.below hb1)
  have HT1 := Lib.hid (HTA.out.below hb1)
  have HB1 := Lib.hid (HBE.out.trans (hb1.mono HBE.out.size))
  clear HA HL HTA HBE hb1
  go_wp2_with fail
  refine (may_any _ l _ HL1.out (by omega)).mono ?_
  rintro e w2 ⟨rfl, hb2⟩
  rw [HMN.out]
  clear a0 a1 a2
  obtain ⟨a0, a1, a2, _, _, _⟩ := HT1.out.below hb2
  have HA2 := Lib.hid (HA1.out.below hb2)
  have HL2 := Lib.hid (HL1.out.below hb2)
  have HB2 := Lib.hid (cum2 HB1.out hb2)
  clear HA1 HL1 HT1 HB1 hb2
  go_wp2_with fail
  have HC := lanes_any ra l.length n ba oa ms.length ka (.slice Al l.length kl) ms l w2 HA2.out HL2.out HLA.out rfl HLN.out hn h1 h2 h3 h4 hka hka2
  unfold matV at HC
  refine HC.mono ?_
  rintro e w3 ⟨r, rfl, hown, hb3⟩
  have HO := Lib.hid (own_base hown HB2.out.size)
  have HB3 := Lib.hid (cum2 HB2.out hb3)
  clear hown hb3 HC a0 a1 a2
  go_wp2_with fail
  go_ret2
  exact ⟨_, rfl, HO.out, HB3.out⟩

set_option maxRecDepth 100000 in
set_option maxHeartbeats 1000000 in
theorem apply_bad (ra : Nat) (ba oa ka : Nat) (vl : Value) (ms : List Nat) (l : List ByteArray) (w : World)
    (ha : BytesV w (.slice (some ⟨ba, oa, none⟩) ms.length ka) ms) (hl : Strs6 w vl l) (hla : ms.length = ra * l.length) (hm : mayN l ≠ 0)
    (h1 : 1 ≤ ra) (h2 : ra ≤ 16) (h3 : 1 ≤ l.length) (h4 : l.length ≤ 16) (hka : ms.length ≤ ka) (hka2 : ka ≤ 9223372036854775807) :
    Calls Try.prog 32 #[matV (ra : Int) (l.length : Int) (.slice (some ⟨ba, oa, none⟩) ms.length ka), vl] w fun e w' =>
      e = .returned (.tuple #[.slice none 0 0, .int .i64 (mayN l)]) ∧ Below w.heap.size w w' := by
  have HMA := Lib.hid (mayM_of h1 h2 h3 h4 hla)
  obtain ⟨mn, hmn⟩ : ∃ mn, mn = mayN l := ⟨_, rfl⟩
  rw [← hmn] at hm ⊢
  have hne : (mn != 0) = true := by rw [bne_iff_ne]; exact hm
  have HMN := Lib.hid hmn
  have tA := Three.new w (.int .i64 (ra : Int)) (.int .i64 (l.length : Int)) (.slice (some ⟨ba, oa, none⟩) ms.length ka) 30
  have hbe := (Below.refl w.heap.size w).alloc (Nat.le_refl _) (.cells #[.int .i64 (ra : Int), .int .i64 (l.length : Int), .slice (some ⟨ba, oa, none⟩) ms.length ka] 30)
  obtain ⟨o, ho⟩ : ∃ o, o = (Obj.cells #[.int .i64 (ra : Int), .int .i64 (l.length : Int), .slice (some ⟨ba, oa, none⟩) ms.length ka] 30) := ⟨_, rfl⟩
  rw [← ho] at tA hbe
  have HTA := Lib.hid tA
  have HBE := Lib.hid hbe
  have HL := Lib.hid (hl.below hbe)
  obtain ⟨Al, kl, rfl⟩ := hl.shape
  obtain ⟨a0, a1, a2, _, _, _⟩ := tA
  rw [ho] at a0 a1 a2
  clear ha hl hla hbe hmn hm
  unfold matV
  go_enter Try.func32, Try.ntmps32
  go_wp2_with fail
  rw [← ho]
  clear a0 a1 a2 ho
  generalize w.alloc o = W0 at *
  have hma : ms.length ≤ 9223372036854775807 := by omega
  have HC := mayM_any (ra : Int) (l.length : Int) (some ⟨ba, oa, none⟩) ms.length ka W0 hma
  unfold matV at HC
  refine HC.mono ?_
  rintro e w1 ⟨rfl, hb1⟩
  clear HC
  rw [HMA.out]
  obtain ⟨a0, a1, a2, _, _, _⟩ := HTA.out.below hb1
  have HL1 := Lib.hid (HL.out.below hb1)
  have HB1 := Lib.hid (HBE.out.trans (hb1.mono HBE.out.size))
  clear HL HTA HBE hb1
  go_wp2_with fail
  refine (may_any _ l _ HL1.out (by omega)).mono ?_
  rintro e w2 ⟨rfl, hb2⟩
  rw [← HMN.out]
  have HB2 := Lib.hid (cum2 HB1.out hb2)
  clear a0 a1 a2 HL1 HB1 hb2 HMN
  go_wp2_with fail
  go_ret2
  exact ⟨rfl, HB2.out⟩

set_option maxRecDepth 100000 in
set_option maxHeartbeats 1000000 in
theorem apply_no (R C : Int) (A Al : Option Addr) (nm k n kl : Nat) (w : World) (hn : nm ≤ 9223372036854775807) (h : mayM R C nm = false ∨ (n : Int) ≠ C) :
    Calls Try.prog 32 #[matV R C (.slice A nm k), .slice Al n kl] w fun e w' =>
      e = .returned (.tuple #[.slice none 0 0, .int .i64 1]) ∧ Below w.heap.size w w' := by
  have tA := Three.new w (.int .i64 R) (.int .i64 C) (.slice A nm k) 30
  have hbe := (Below.refl w.heap.size w).alloc (Nat.le_refl _) (.cells #[.int .i64 R, .int .i64 C, .slice A nm k] 30)
  obtain ⟨o, ho⟩ : ∃ o, o = (Obj.cells #[.int .i64 R, .int .i64 C, .slice A nm k] 30) := ⟨_, rfl⟩
  rw [← ho] at tA hbe
  have HTA := Lib.hid tA
  have HBE := Lib.hid hbe
  obtain ⟨a0, a1, a2, _, _, _⟩ := tA
  rw [ho] at a0 a1 a2
  have HH := Lib.hid h
  clear hbe h
  unfold matV
  go_enter Try.func32, Try.ntmps32
  go_wp2_with fail
  rw [← ho]
  clear a0 a1 a2 ho
  generalize w.alloc o = W0 at *
  have HC := mayM_any R C A nm k W0 hn
  unfold matV at HC
  refine HC.mono ?_
  rintro e w1 ⟨rfl, hb1⟩
  clear HC
  obtain ⟨a0, a1, a2, _, _, _⟩ := HTA.out.below hb1
  have HB1 := Lib.hid (HBE.out.trans (hb1.mono HBE.out.size))
  clear HTA HBE hb1
  cases hb : mayM R C nm
  · go_wp2_with fail
    go_ret2
    exact ⟨rfl, HB1.out⟩
  · have hne : ((n : Int) != C) = true := by
      rw [bne_iff_ne]
      rcases HH.out with h | h
      · rw [hb] at h; cases h
      · exact h
    clear hb
    go_wp2_with fail
    go_ret2
    exact ⟨rfl, HB1.out⟩
end Go.Proofs.Ytibinkppbdeofaa

/- matrix.Mul where it is refused, walked. -/

namespace Go.Proofs.Ytibinkppbdeofaa
open Go.ChangeShapes Go.WideShapes Go.ChangeAt Go.RowKit Go.Joins
set_option linter.unusedVariables false
set_option linter.unusedSimpArgs false

set_option maxRecDepth 100000 in
set_option maxHeartbeats 1000000 in
theorem mul_no (Ra Ca Rb Cb : Int) (A B : Option Addr) (na ka nb kb : Nat) (w : World) (hna : na ≤ 9223372036854775807) (hnb : nb ≤ 9223372036854775807)
    (h : ¬ (mayM Ra Ca na = true ∧ mayM Rb Cb nb = true ∧ Ca = Rb)) :
    Calls Try.prog 20 #[matV Ra Ca (.slice A na ka), matV Rb Cb (.slice B nb kb)] w fun e w' =>
      e = .returned (.tuple #[matV 0 0 (.slice none 0 0), .int .i64 1]) ∧ Below w.heap.size w w' := by
  obtain ⟨oA, hoA⟩ : ∃ o, o = (Obj.cells #[.int .i64 Ra, .int .i64 Ca, .slice A na ka] 30) := ⟨_, rfl⟩
  obtain ⟨oB, hoB⟩ : ∃ o, o = (Obj.cells #[.int .i64 Rb, .int .i64 Cb, .slice B nb kb] 30) := ⟨_, rfl⟩
  obtain ⟨oR, hoR⟩ : ∃ o, o = (Obj.cells #[.int .i64 0, .int .i64 0, .slice none 0 0] 30) := ⟨_, rfl⟩
  have tA := Three.new w (.int .i64 Ra) (.int .i64 Ca) (.slice A na ka) 30
  rw [← hoA] at tA
  have tB := Three.new (w.alloc oA) (.int .i64 Rb) (.int .i64 Cb) (.slice B nb kb) 30
  rw [World.size_alloc, ← hoB] at tB
  have tR := Three.new ((w.alloc oA).alloc oB) (.int .i64 0) (.int .i64 0) (.slice none 0 0) 30
  rw [World.size_alloc, World.size_alloc, ← hoR] at tR
  have HTA := Lib.hid ((tA.alloc oB).alloc oR)
  have HTB := Lib.hid (tB.alloc oR)
  have HTR := Lib.hid tR
  have hbe : Below w.heap.size w (((w.alloc oA).alloc oB).alloc oR) := (((Below.refl w.heap.size w).alloc (Nat.le_refl _) oA).alloc (by simp) oB).alloc (by simp; omega) oR
  have HBE := Lib.hid hbe
  obtain ⟨pa, hpa⟩ : ∃ pa, mayM Ra Ca na = pa := ⟨_, rfl⟩
  obtain ⟨pb, hpb⟩ : ∃ pb, mayM Rb Cb nb = pb := ⟨_, rfl⟩
  rw [hpa, hpb] at h
  have HPA := Lib.hid hpa
  have HPB := Lib.hid hpb
  clear tA tB tR hbe hpa hpb
  unfold matV
  go_enter Try.func20, Try.ntmps20
  go_wp2_with fail
  rw [← hoA, ← hoB, ← hoR]
  generalize ((w.alloc oA).alloc oB).alloc oR = W0 at *
  clear hoA hoB hoR
  refine (mayM_any Ra Ca A na ka _ hna).mono ?_
  rintro e w1 ⟨rfl, hb1⟩
  rw [HPA.out]
  have ht1 := HTR.out.below hb1
  obtain ⟨r0, r1, r2, r3, r4, r5⟩ := ht1
  have hx1 := HBE.out.trans (hb1.mono HBE.out.size)
  cases pa with
  | false =>
    clear h
    have HT := Lib.hid (HTR.out.below hb1)
    clear hb1
    go_wp2_with fail
    obtain ⟨t0, t1, t2, _, _, _⟩ := three_put HT.out (.int .i64 0) (.int .i64 0) (.slice none 0 0)
    refine bodyPost_ret (v := .tuple #[matV 0 0 (.slice none 0 0), .int .i64 1]) (by simp [results, Try.results20, go_sem, matV, *]) rfl ⟨rfl, ?_⟩
    exact ((hx1.setCell (p := ⟨w.heap.size + 1 + 1, 0, none⟩) (by dsimp only; omega) _).setCell (p := ⟨w.heap.size + 1 + 1, 1, none⟩) (by dsimp only; omega) _).setCell (p := ⟨w.heap.size + 1 + 1, 2, none⟩) (by dsimp only; omega) _
  | true =>
    obtain ⟨b0, b1, b2, b3, b4, b5⟩ := HTB.out.below hb1
    clear b3 b4 b5 r0 r1 r2 r3 r4 r5
    go_wp2_with fail
    refine (mayM_any Rb Cb B nb kb _ hnb).mono ?_
    rintro e w2 ⟨rfl, hb2⟩
    rw [HPB.out]
    have hb12 := hb1.trans (hb2.mono hb1.size)
    have HT := Lib.hid (HTR.out.below hb12)
    obtain ⟨r0, r1, r2, r3, r4, r5⟩ := HTR.out.below hb12
    have hx2 := HBE.out.trans (hb12.mono HBE.out.size)
    clear b0 b1 b2
    obtain ⟨a0, a1, a2, a3, a4, a5⟩ := HTA.out.below hb12
    obtain ⟨b0, b1, b2, b3, b4, b5⟩ := HTB.out.below hb12
    clear a3 a4 a5 b3 b4 b5 hb1 hb2 hb12 hx1
    cases pb with
    | false =>
      clear h
      go_wp2_with fail
      obtain ⟨t0, t1, t2, _, _, _⟩ := three_put HT.out (.int .i64 0) (.int .i64 0) (.slice none 0 0)
      refine bodyPost_ret (v := .tuple #[matV 0 0 (.slice none 0 0), .int .i64 1]) (by simp [results, Try.results20, go_sem, matV, *]) rfl ⟨rfl, ?_⟩
      exact ((hx2.setCell (p := ⟨w.heap.size + 1 + 1, 0, none⟩) (by dsimp only; omega) _).setCell (p := ⟨w.heap.size + 1 + 1, 1, none⟩) (by dsimp only; omega) _).setCell (p := ⟨w.heap.size + 1 + 1, 2, none⟩) (by dsimp only; omega) _
    | true =>
      have hne : (Ca != Rb) = true := by rw [bne_iff_ne]; exact fun e => h (by simp [e])
      clear h
      go_wp2_with fail
      obtain ⟨t0, t1, t2, _, _, _⟩ := three_put HT.out (.int .i64 0) (.int .i64 0) (.slice none 0 0)
      refine bodyPost_ret (v := .tuple #[matV 0 0 (.slice none 0 0), .int .i64 1]) (by simp [results, Try.results20, go_sem, matV, *]) rfl ⟨rfl, ?_⟩
      exact ((hx2.setCell (p := ⟨w.heap.size + 1 + 1, 0, none⟩) (by dsimp only; omega) _).setCell (p := ⟨w.heap.size + 1 + 1, 1, none⟩) (by dsimp only; omega) _).setCell (p := ⟨w.heap.size + 1 + 1, 2, none⟩) (by dsimp only; omega) _
end Go.Proofs.Ytibinkppbdeofaa

/- Answers that are written over: texts (silolaw0.Strings), walked. -/

namespace Go.Proofs.Ytibinkppbdeofaa
open Go.ChangeShapes Go.WideShapes Go.ChangeAt Go.RowKit Go.Joins
set_option linter.unusedVariables false
set_option linter.unusedSimpArgs false

/-- A block whose first n cells hold texts, and may be written. -/
def StrBlk (w : World) (B n : Nat) : Prop := ∀ i, i < n → ∃ s : ByteArray, w.cell? ⟨B, i, none⟩ = some (.string s) ∧ w.frozen? ⟨B, i, none⟩ = false
theorem StrBlk.next {w : World} {B n : Nat} (h : StrBlk w B n) (k : Nat) (s : ByteArray) : StrBlk (w.setCell ⟨B, k, none⟩ (.string s)) B n := by
  intro i hi
  obtain ⟨t, h1, h2⟩ := h i hi
  by_cases e : k = i
  · subst e
    exact ⟨s, World.cell?_setCell_same' _ _ _ (by rw [h1]; rfl), by rw [World.frozen?_setCell]; exact h2⟩
  · exact ⟨t, by rw [World.cell?_setCell_other _ _ _ _ (by simp [e])]; exact h1, by rw [World.frozen?_setCell]; exact h2⟩
theorem StrBlk.below {w w' : World} {B n : Nat} (h : StrBlk w B n) (hb : Below w.heap.size w w') : StrBlk w' B n := by
  intro i hi
  obtain ⟨t, h1, h2⟩ := h i hi
  have hlt : B < w.heap.size := cell_block h1
  refine ⟨t, by rw [hb.cell (p := ⟨B, i, none⟩) hlt]; exact h1, ?_⟩
  have e := hb.block B hlt
  unfold World.frozen? at *
  rw [e]; exact h2
theorem strBlk_new (w : World) (L : List ByteArray) (T : TypeId) : StrBlk (w.alloc (.cells (L.map Value.string).toArray T)) w.heap.size L.length := by
  intro i hi
  refine ⟨L[i], ?_, ?_⟩
  · rw [cell_of_row _ _ _ _ _ _ (heap_alloc_new w _)]
    simp [hi]
  · unfold World.frozen?
    rw [heap_alloc_new]
    simp
/-- A slice of texts that may be written over, none of them in a block below B. -/
def Spoils (B : Nat) (w : World) (v : Value) : Prop := ∃ A n c, v = .slice A n c ∧ (0 < n → ∃ b, A = some ⟨b, 0, none⟩ ∧ B ≤ b ∧ StrBlk w b n)
theorem Spoils.below {B : Nat} {w w' : World} {v : Value} (h : Spoils B w v) (hb : Below w.heap.size w w') : Spoils B w' v := by
  obtain ⟨A, n, c, rfl, h2⟩ := h
  refine ⟨A, n, c, rfl, fun hn => ?_⟩
  obtain ⟨b, e, hB, hs⟩ := h2 hn
  exact ⟨b, e, hB, hs.below hb⟩

set_option maxRecDepth 100000 in
set_option maxHeartbeats 1000000 in
theorem strings_any (B : Nat) (v : Value) (w : World) (h : Spoils B w v) (hlen : ∀ A n c, v = .slice A n c → n ≤ 1000000) :
    Calls Try.prog 36 #[v] w fun e w' => e = .returned (.tuple #[]) ∧ Below B w w' := by
  obtain ⟨A, n, c, rfl, h2⟩ := h
  have hn := hlen A n c rfl
  clear hlen
  by_cases h0 : 0 < n
  · obtain ⟨b, rfl, hB, hs⟩ := h2 h0
    have HS0 := Lib.hid hs
    clear hs h2
    go_enter Try.func36, Try.ntmps36
    go_wp2_with fail
    go_loopw [2] (fun i wr => ∃ k : Nat, i = .int .i64 k ∧ k ≤ n ∧ Hid (StrBlk wr b n) ∧ Hid (Below B w wr)) (fun i _ => n - (intOf i).toNat)
    case atStart => exact ⟨0, rfl, by omega, HS0.out, Below.refl _ _⟩
    case round =>
      clear HS0
      obtain ⟨k, rfl, hk, HS, HB⟩ := hrel
      by_cases hlt : k < n
      · obtain ⟨t, c1, c2⟩ := HS.out k hlt
        have HS1 := Lib.hid (HS.out.next k ⟨#[115, 112, 111, 105, 108, 116]⟩)
        have HB1 := Lib.hid (HB.out.setCell (p := ⟨b, k, none⟩) hB (.string ⟨#[115, 112, 111, 105, 108, 116]⟩))
        have i0 : (0 : Int) ≤ (k : Int) := by omega
        have i1 : (k : Int) < (n : Int) := by omega
        go_wp2_with fail
        go_roundw
        case rel => exact ⟨k + 1, by go_num, by omega, HS1.out, HB1.out⟩
        case measure => simp [intOf]; omega
      · go_wp2_with fail
        first
          | (refine bodyPost_ret (results_none rfl _ _ _) rfl ?_; exact ⟨rfl, HB.out⟩)
          | (go_end0; exact ⟨rfl, HB.out⟩)
  · obtain rfl : n = 0 := by omega
    clear h2
    go_enter Try.func36, Try.ntmps36
    go_wp2_with fail
    go_loopw [2] (fun i wr => i = .int .i64 0 ∧ Hid (Below B w wr)) (fun i _ => 0)
    case atStart => exact ⟨rfl, Below.refl _ _⟩
    case round =>
      obtain ⟨rfl, HB⟩ := hrel
      go_wp2_with fail
      first
        | (refine bodyPost_ret (results_none rfl _ _ _) rfl ?_; exact ⟨rfl, HB.out⟩)
        | (go_end0; exact ⟨rfl, HB.out⟩)

/-- What was appended to may be written over. -/
theorem Spoils.of_own {w : World} {B n : Nat} {e : TypeId} {v : Value} {L : List ByteArray} (h : w.ownsRow B e 1 v n (L.map Value.string)) : Spoils B w v := by
  have hc := h
  obtain ⟨hl, ⟨rfl, rfl⟩ | ⟨g, cap, cur, rfl, hB, hh, h1, h2, h3, h4⟩⟩ := h
  · exact ⟨none, 0, 0, rfl, fun h => absurd h (by omega)⟩
  · refine ⟨_, _, _, rfl, fun _ => ⟨g, rfl, hB, fun i hi => ?_⟩⟩
    have hil : i < L.length := by rw [List.length_map] at hl; omega
    refine ⟨L[i], ?_, ?_⟩
    · have := hc.cells (g := g) rfl i (.string L[i]) (by simp [hil])
      rw [Go.WideShapes.add_plain, Nat.zero_add] at this
      exact this
    · have hi2 : i < cur.size := by rw [h3]; omega
      simp [World.frozen?, hh, hi2]
theorem Spoils.nil (B : Nat) (w : World) (A : Option Addr) (c : Nat) : Spoils B w (.slice A 0 c) := ⟨A, 0, c, rfl, fun h => absurd h (by omega)⟩
end Go.Proofs.Ytibinkppbdeofaa

/- matrix.Mul and matrix.Apply, whatever comes in, as one contract each. -/

namespace Go.Proofs.Ytibinkppbdeofaa
open Go.ChangeShapes Go.WideShapes Go.ChangeAt Go.RowKit Go.Joins
set_option linter.unusedVariables false
set_option linter.unusedSimpArgs false

/-- Whether two matrices may be multiplied; what comes of it. -/
def mulK (Ra Ca Rb Cb : Int) (na nb : Nat) : Bool := mayM Ra Ca na && (mayM Rb Cb nb && decide (Ca = Rb))
def mulE (k : Bool) : Int := if k then 0 else 1
def mulR (k : Bool) (R : Int) : Int := if k then R else 0
def mulX (k : Bool) (ms ns : List Nat) (Ra Ca Cb : Int) : List Nat := if k then timesL ms ns Ra.toNat Ca.toNat Cb.toNat else []
theorem mulK_yes {Ra Ca Rb Cb : Int} {na nb : Nat} (h : mulK Ra Ca Rb Cb na nb = true) : mayM Ra Ca na = true ∧ mayM Rb Cb nb = true ∧ Ca = Rb := by
  unfold mulK at h
  simp only [Bool.and_eq_true, decide_eq_true_eq] at h
  exact h
theorem bytesV_nil (w : World) (A : Option Addr) (c : Nat) : BytesV w (.slice A 0 c) [] := ⟨⟨by simp, A, c, rfl, fun h => absurd h (by simp)⟩, by simp⟩

theorem mulX_len (k : Bool) {ms ns : List Nat} {Ra Ca Cb : Int} (hk : k = mulK Ra Ca Ca Cb ms.length ns.length) : (mulX k ms ns Ra Ca Cb).length ≤ 256 := by
  cases k with
  | false => simp [mulX]
  | true =>
    obtain ⟨m1, m2, _⟩ := mulK_yes hk.symm
    obtain ⟨r, cc, rfl, rfl, _, r16, _, _, _⟩ := mayM_yes m1
    obtain ⟨r', cb, _, rfl, _, _, _, b16, _⟩ := mayM_yes m2
    have := Nat.mul_le_mul r16 b16
    simp only [mulX, if_true, Int.toNat_natCast, timesL_length]
    omega
theorem mul_all (Ra Ca Rb Cb : Int) (va vb : Value) (ms ns : List Nat) (w : World) (ha : BytesV w va ms) (hb : BytesV w vb ns) (ra : RoomV va ms) (rb : RoomV vb ns) (hla : ms.length ≤ 100000) (hlb : ns.length ≤ 100000) (k : Bool) (hk : mulK Ra Ca Rb Cb ms.length ns.length = k) :
    Calls Try.prog 20 #[matV Ra Ca va, matV Rb Cb vb] w fun e w' =>
      ∃ vl, e = .returned (.tuple #[matV (mulR k Ra) (mulR k Cb) vl, .int .i64 (mulE k)]) ∧ BytesV w' vl (mulX k ms ns Ra Ca Cb) ∧ Below w.heap.size w w' := by
  obtain ⟨A, c, rfl, h1, h2⟩ := ra
  obtain ⟨B, d, rfl, h3, h4⟩ := rb
  cases k with
  | true =>
    obtain ⟨m1, m2, rfl⟩ := mulK_yes hk
    obtain ⟨r, cc, rfl, rfl, r1, r16, c1, c16, hrc⟩ := mayM_yes m1
    obtain ⟨r', cb, e, rfl, q1, q16, b1, b16, hrb⟩ := mayM_yes m2
    obtain rfl : r' = cc := by omega
    have hn1 : 0 < ms.length := by rw [hrc]; exact Nat.mul_pos r1 c1
    have hn2 : 0 < ns.length := by rw [hrb]; exact Nat.mul_pos c1 b1
    obtain ⟨b3, o3, rfl, _, _⟩ := ha.at_ hn1
    obtain ⟨b4, o4, rfl, _, _⟩ := hb.at_ hn2
    refine (mul_yes r r' cb b3 o3 c b4 o4 d ms ns w ha hb hrc hrb r1 r16 c1 c16 b1 b16 h1 h3 h2 h4).mono fun e w' ⟨v, he, hm, hbe⟩ => ?_
    obtain ⟨vl, rfl, hvl⟩ := hm.bytes
    exact ⟨vl, he, hvl, hbe⟩
  | false =>
    refine (mul_no Ra Ca Rb Cb A B ms.length c ns.length d w (by omega) (by omega) ?_).mono fun e w' ⟨he, hbe⟩ => ⟨_, he, bytesV_nil _ _ _, hbe⟩
    intro ⟨q1, q2, q3⟩
    unfold mulK at hk
    rw [q1, q2, q3] at hk
    simp at hk
theorem refMatrix_is (R C : Int) (A : Option Addr) (n k : Nat) (b : Bool) (hb : mayM R C n = b) (w : World) (hn : n ≤ 9223372036854775807) :
    Calls Try.prog 23 #[.agg #[.int .i64 R, .int .i64 C, .slice A n k]] w fun e w' => e = .returned (.bool b) ∧ Below w.heap.size w w' := by
  have := refMatrix_any R C A n k w hn
  rw [hb] at this
  exact this

/-- Whether a matrix may be applied to so many lanes; what comes of it. -/
def appK (R C : Int) (nm n : Nat) : Bool := mayM R C nm && decide ((n : Int) = C)
def appE (k : Bool) (L : List ByteArray) : Int := if k then mayN L else 1
def appX (k : Bool) (ms : List Nat) (R : Int) (L : List ByteArray) : List ByteArray := if k && mayN L == 0 then applyL ms L R.toNat L.length (L.getD 0 ByteArray.empty).size else []
theorem appX_len (k : Bool) {ms : List Nat} {R C : Int} {L : List ByteArray} (hk : k = appK R C ms.length L.length) : (appX k ms R L).length ≤ 16 := by
  unfold appX
  split
  · rename_i h
    cases k with
    | false => simp at h
    | true =>
      have h2 := hk.symm
      unfold appK at h2
      simp only [Bool.and_eq_true] at h2
      obtain ⟨r, cc, rfl, _, _, r16, _⟩ := mayM_yes h2.1
      rw [applyL_length]
      omega
  · simp
theorem strs6_own {w : World} {B n : Nat} {e : TypeId} {v : Value} {L : List ByteArray} (h : w.ownsRow B e 1 v n (L.map Value.string)) : Strs6 w v L := by
  have h1 := RowIs.of_own h
  have h2 : n = L.length := by have := h1.1; simp at this; omega
  rw [h2] at h1
  exact h1
theorem strs6_nil (w : World) (A : Option Addr) (c : Nat) : Strs6 w (.slice A 0 c) [] := ⟨by simp, A, c, rfl, fun h => absurd h (by simp)⟩

theorem apply_all (R C : Int) (va vl : Value) (ms : List Nat) (L : List ByteArray) (w : World) (ha : BytesV w va ms) (ra : RoomV va ms) (hl : Strs6 w vl L) (hla : ms.length ≤ 100000) (k : Bool) (hk : appK R C ms.length L.length = k) :
    Calls Try.prog 32 #[matV R C va, vl] w fun e w' =>
      ∃ r, e = .returned (.tuple #[r, .int .i64 (appE k L)]) ∧ Strs6 w' r (appX k ms R L) ∧ Spoils w.heap.size w' r ∧ Below w.heap.size w w' := by
  obtain ⟨A, c, rfl, h1, h2⟩ := ra
  obtain ⟨Al, cl, rfl⟩ := hl.shape
  cases k with
  | true =>
    unfold appK at hk
    simp only [Bool.and_eq_true, decide_eq_true_eq] at hk
    obtain ⟨m1, rfl⟩ := hk
    obtain ⟨r, cc, rfl, e, r1, r16, c1, c16, hrc⟩ := mayM_yes m1
    obtain rfl : cc = L.length := by omega
    have hn1 : 0 < ms.length := by rw [hrc]; exact Nat.mul_pos r1 c1
    obtain ⟨b3, o3, rfl, _, _⟩ := ha.at_ hn1
    by_cases hm : mayN L = 0
    · have hsz := mayN_all hm
      have h8 : (L.getD 0 ByteArray.empty).size ≤ 8192 := by
        rw [← List.getElem_eq_getD (h := by omega)]
        exact (hsz _ (List.getElem_mem _)).2
      refine (apply_yes r _ b3 o3 c _ ms L w ha hl hrc (fun s hs => (hsz s hs).1) h8 r1 r16 c1 c16 h1 h2).mono fun e w' ⟨x, he, hown, hbe⟩ => ?_
      have hX : appX true ms (r : Int) L = applyL ms L r L.length (L.getD 0 ByteArray.empty).size := by simp [appX, hm]
      refine ⟨x, by rw [he]; simp [appE, hm], ?_, Spoils.of_own hown, hbe⟩
      rw [hX]
      exact strs6_own hown
    · refine (apply_bad r b3 o3 c _ ms L w ha hl hrc hm r1 r16 c1 c16 h1 h2).mono fun e w' ⟨he, hbe⟩ => ?_
      have hX : appX true ms (r : Int) L = [] := by simp [appX, hm]
      refine ⟨_, he, ?_, Spoils.nil _ _ _ _, hbe⟩
      rw [hX]
      exact strs6_nil _ _ _
  | false =>
    refine (apply_no R C A Al ms.length c L.length cl w (by omega) ?_).mono fun e w' ⟨he, hbe⟩ => ⟨_, he, strs6_nil _ _ _, Spoils.nil _ _ _ _, hbe⟩
    unfold appK at hk
    simp only [Bool.and_eq_false_iff, decide_eq_false_iff_not] at hk
    exact hk
end Go.Proofs.Ytibinkppbdeofaa
