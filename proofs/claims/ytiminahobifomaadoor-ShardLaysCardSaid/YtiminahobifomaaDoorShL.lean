/- shard.Sectors, shard.Class. -/
import Derived.Test.YtiminahobifomaaDoorShK
namespace Go.Proofs.YtiminahobifomaaDoor
open Go.ChangeShapes Go.WideShapes Go.ChangeAt Go.RowKit Go.Joins Go.Shelf
set_option linter.unusedVariables false
set_option linter.unusedSimpArgs false

set_option maxRecDepth 100000 in
set_option maxHeartbeats 2000000 in
theorem sectors_no (st ix g : Int) (t : ByteArray) (hb : shardB st ix g t = false) (w : World) :
    Calls Tryd.prog 6 #[.agg #[.int .i64 st, .int .i64 ix, .int .i64 g, .string t]] w fun e w' => e = .returned (.tuple #[.slice none 0 0, .int .i64 1]) ∧ Below w.heap.size w w' := by
  obtain ⟨hbe, b0, b1, b2, b3⟩ := box4_facts w (.int .i64 st) (.int .i64 ix) (.int .i64 g) (.string t) 28
  have HB := Lib.hid hbe
  clear hbe
  go_enter Tryd.func6, Tryd.ntmps6
  go_wp2_with fail
  refine (shMay_any st ix g t false hb _).mono ?_
  rintro e w1 ⟨rfl, hb1⟩
  have HB1 := Lib.hid (HB.out.trans (hb1.mono HB.out.size))
  clear hb1
  go_wp2_with fail
  go_ret2
  exact ⟨rfl, HB1.out⟩

set_option maxRecDepth 100000 in
set_option maxHeartbeats 2000000 in
theorem sectors_yes (st ix g : Nat) (t : ByteArray) (hm : (⟨st, ix, g, t⟩ : Sh).may = true) (w : World) :
    Calls Tryd.prog 6 #[.agg #[.int .i64 (st : Int), .int .i64 (ix : Int), .int .i64 (g : Int), .string t]] w fun e w' => ∃ r, e = .returned (.tuple #[r, .int .i64 0]) ∧ w'.ownsRow w.heap.size 9 1 r (layS ⟨st, ix, g, t⟩).length ((layS ⟨st, ix, g, t⟩).map Value.string) ∧ Below w.heap.size w w' := by
  obtain ⟨hbe, b0, b1, b2, b3⟩ := box4_facts w (.int .i64 (st : Int)) (.int .i64 (ix : Int)) (.int .i64 (g : Int)) (.string t) 28
  have hlt : w.heap.size < (w.alloc (.cells #[.int .i64 (st : Int), .int .i64 (ix : Int), .int .i64 (g : Int), .string t] 28)).heap.size := by simp
  have HB := Lib.hid hbe
  have HX : Hid (∀ W', Below (w.alloc (.cells #[.int .i64 (st : Int), .int .i64 (ix : Int), .int .i64 (g : Int), .string t] 28)).heap.size (w.alloc (.cells #[.int .i64 (st : Int), .int .i64 (ix : Int), .int .i64 (g : Int), .string t] 28)) W' → W'.cell? ⟨w.heap.size, 0, none⟩ = some (.int .i64 (st : Int)) ∧ W'.cell? ⟨w.heap.size, 1, none⟩ = some (.int .i64 (ix : Int)) ∧ W'.cell? ⟨w.heap.size, 2, none⟩ = some (.int .i64 (g : Int)) ∧ W'.cell? ⟨w.heap.size, 3, none⟩ = some (.string t)) := fun W' hW =>
    ⟨(hW.cell (p := ⟨w.heap.size, 0, none⟩) hlt).trans b0, (hW.cell (p := ⟨w.heap.size, 1, none⟩) hlt).trans b1, (hW.cell (p := ⟨w.heap.size, 2, none⟩) hlt).trans b2, (hW.cell (p := ⟨w.heap.size, 3, none⟩) hlt).trans b3⟩
  clear hbe hlt
  go_enter Tryd.func6, Tryd.ntmps6
  go_wp2_with fail
  clear b0 b1 b2 b3
  generalize w.alloc (.cells #[.int .i64 (st : Int), .int .i64 (ix : Int), .int .i64 (g : Int), .string t] 28) = W0 at *
  refine (shMay_any (st : Int) (ix : Int) (g : Int) t true hm _).mono ?_
  rintro e w1 ⟨rfl, hb1⟩
  obtain ⟨x0, x1, x2, x3⟩ := HX.out _ hb1
  have HB1 := Lib.hid (HB.out.trans (hb1.mono HB.out.size))
  clear hb1
  go_wp2_with fail
  refine (spelt_any st ix g t hm _).mono ?_
  rintro e w2 ⟨r, rfl, hor, hb2⟩
  obtain ⟨Ar, cr, rfl⟩ := own_shape hor
  have HB2 := Lib.hid (HB1.out.trans (hb2.mono HB1.out.size))
  have HOR := Lib.hid (own_base hor HB1.out.size)
  clear hor hb2 x0 x1 x2 x3
  go_wp2_with fail
  go_ret2
  exact ⟨_, rfl, HOR.out, HB2.out⟩

set_option maxRecDepth 100000 in
set_option maxHeartbeats 4000000 in
theorem class12_any (v : Value) (l : List ByteArray) (st g ix : Int) (w : World) (h : OwnS w v l) (hl : l.length ≤ 100000) (hs : (joinB l).length ≤ 10000000) :
    Calls Tryd.prog 9 #[v, .int .i64 st, .int .i64 g, .int .i64 ix] w fun e w' => e = .returned (.int .i64 (classV l st g ix)) ∧ Below w.heap.size w w' := by
  obtain ⟨A, c, rfl⟩ := h.shape
  have HL := Lib.hid h
  have HJF : Hid (∀ W, OwnS W (.slice A l.length c) l → Calls Tryd.prog 25 #[.slice A l.length c, .string ⟨#[]⟩] W fun e w' => e = .returned (.string (strOf8 (joinB l))) ∧ Below W.heap.size W w') := fun W hW => join12 A c l W hW (by omega) hs
  have HTF : Hid (∀ W, Calls Tryd.prog 28 #[.string (strOf8 (joinB l)), .string ⟨#[0]⟩] W fun e w' => (∃ T : ByteArray, e = .returned (.string T) ∧ T.toList.isEmpty = blankB l) ∧ Below W.heap.size W w') := fun W => trim12 l W hs
  have HTK := Lib.hid (take12_any _ l w h hl)
  obtain ⟨o, ho⟩ : ∃ o, takeO l = o := ⟨_, rfl⟩
  rw [ho] at HTK
  have HO := Lib.hid ho
  clear ho h hs hl
  go_enter Tryd.func9, Tryd.ntmps9
  go_wp2_with fail
  refine HTK.out.mono ?_
  rintro e w1 ⟨rfl, hb1⟩
  have HL1 := Lib.hid (HL.out.below hb1)
  have HB1 := Lib.hid hb1
  clear hb1 HTK HL
  cases o with
  | none =>
    unfold takeV takeN shZ
    have HC9 := Lib.hid (Cell4.new w1 (.int .i64 0) (.int .i64 0) (.int .i64 0) (.string ⟨#[]⟩) 28)
    have hbz := (Below.refl w1.heap.size w1).alloc (Nat.le_refl _) (.cells #[.int .i64 0, .int .i64 0, .int .i64 0, .string ⟨#[]⟩] 28)
    have HL2 := Lib.hid (HL1.out.below hbz)
    have HB2 := Lib.hid (HB1.out.trans (hbz.mono HB1.out.size))
    clear hbz
    go_upto_block 0 with fail
    generalize w1.alloc (.cells #[.int .i64 0, .int .i64 0, .int .i64 0, .string ⟨#[]⟩] 28) = w2 at *
    generalize w1.heap.size = b9 at *
    obtain ⟨s0, s1, s2, s3, _, _, _, _⟩ := HC9.out
    go_wp2_with fail
    refine (HJF.out _ HL2.out).mono ?_
    rintro e wj ⟨rfl, hbj⟩
    have HBJ := Lib.hid (HB2.out.trans (hbj.mono HB2.out.size))
    clear hbj
    go_wp2_with fail
    refine (HTF.out _).mono ?_
    rintro e wk ⟨⟨T, rfl, hT⟩, hbk⟩
    have HBK := Lib.hid (HBJ.out.trans (hbk.mono HBJ.out.size))
    clear hbk
    obtain ⟨bb, hbb⟩ : ∃ b, blankB l = b := ⟨_, rfl⟩
    rw [hbb] at hT
    have HBB := Lib.hid hbb
    clear hbb
    cases bb with
    | true =>
      have HCV : Hid (classV l st g ix = 0) := by rw [Hid, class_none HO.out, HBB.out]; rfl
      go_wp2_with fail
      go_ret
      exact ⟨by rw [HCV.out]; rfl, HBK.out⟩
    | false =>
      have HCV : Hid (classV l st g ix = 1) := by rw [Hid, class_none HO.out, HBB.out]; rfl
      go_wp2_with fail
      go_ret
      exact ⟨by rw [HCV.out]; rfl, HBK.out⟩
  | some s =>
    obtain ⟨a, b, d, tx⟩ := s
    unfold takeV takeN shV
    dsimp only
    have HC9 := Lib.hid (Cell4.new w1 (.int .i64 (a : Int)) (.int .i64 (b : Int)) (.int .i64 (d : Int)) (.string tx) 28)
    have hbz := (Below.refl w1.heap.size w1).alloc (Nat.le_refl _) (.cells #[.int .i64 (a : Int), .int .i64 (b : Int), .int .i64 (d : Int), .string tx] 28)
    have HL2 := Lib.hid (HL1.out.below hbz)
    have HB2 := Lib.hid (HB1.out.trans (hbz.mono HB1.out.size))
    clear hbz
    go_upto_block 0 with fail
    generalize w1.alloc (.cells #[.int .i64 (a : Int), .int .i64 (b : Int), .int .i64 (d : Int), .string tx] 28) = w2 at *
    generalize w1.heap.size = b9 at *
    obtain ⟨s0, s1, s2, s3, _, _, _, _⟩ := HC9.out
    obtain ⟨q1, hq1⟩ : ∃ q, ((a : Int) == st) = q := ⟨_, rfl⟩
    cases q1 with
    | false =>
      have HNE : Hid (¬ ((a : Int) = st ∧ (d : Int) = g ∧ (b : Int) = ix)) := fun h => by have := h.1; rw [this] at hq1; simp at hq1
      go_wp2_with fail
      refine (HJF.out _ HL2.out).mono ?_
      rintro e wj ⟨rfl, hbj⟩
      have HBJ := Lib.hid (HB2.out.trans (hbj.mono HB2.out.size))
      clear hbj
      go_wp2_with fail
      refine (HTF.out _).mono ?_
      rintro e wk ⟨⟨T, rfl, hT⟩, hbk⟩
      have HBK := Lib.hid (HBJ.out.trans (hbk.mono HBJ.out.size))
      clear hbk
      obtain ⟨bb, hbb⟩ : ∃ b, blankB l = b := ⟨_, rfl⟩
      rw [hbb] at hT
      have HBB := Lib.hid hbb
      clear hbb
      cases bb with
      | true =>
        have HCV : Hid (classV l st g ix = 0) := absurd HBB.out (by rw [← (takeO_some HO.out).2.2, lay_not_blank]; simp)
        go_wp2_with fail
        go_ret
        exact ⟨by rw [HCV.out]; rfl, HBK.out⟩
      | false =>
        have HCV : Hid (classV l st g ix = 1) := (class_some HO.out st g ix).trans (if_neg HNE.out)
        go_wp2_with fail
        go_ret
        exact ⟨by rw [HCV.out]; rfl, HBK.out⟩
    | true =>
      obtain ⟨q2, hq2⟩ : ∃ q, ((d : Int) == g) = q := ⟨_, rfl⟩
      cases q2 with
      | false =>
        have HNE : Hid (¬ ((a : Int) = st ∧ (d : Int) = g ∧ (b : Int) = ix)) := fun h => by have := h.2.1; rw [this] at hq2; simp at hq2
        go_wp2_with fail
        refine (HJF.out _ HL2.out).mono ?_
        rintro e wj ⟨rfl, hbj⟩
        have HBJ := Lib.hid (HB2.out.trans (hbj.mono HB2.out.size))
        clear hbj
        go_wp2_with fail
        refine (HTF.out _).mono ?_
        rintro e wk ⟨⟨T, rfl, hT⟩, hbk⟩
        have HBK := Lib.hid (HBJ.out.trans (hbk.mono HBJ.out.size))
        clear hbk
        obtain ⟨bb, hbb⟩ : ∃ b, blankB l = b := ⟨_, rfl⟩
        rw [hbb] at hT
        have HBB := Lib.hid hbb
        clear hbb
        cases bb with
        | true =>
          have HCV : Hid (classV l st g ix = 0) := absurd HBB.out (by rw [← (takeO_some HO.out).2.2, lay_not_blank]; simp)
          go_wp2_with fail
          go_ret
          exact ⟨by rw [HCV.out]; rfl, HBK.out⟩
        | false =>
          have HCV : Hid (classV l st g ix = 1) := (class_some HO.out st g ix).trans (if_neg HNE.out)
          go_wp2_with fail
          go_ret
          exact ⟨by rw [HCV.out]; rfl, HBK.out⟩
      | true =>
        obtain ⟨q3, hq3⟩ : ∃ q, ((b : Int) == ix) = q := ⟨_, rfl⟩
        cases q3 with
        | false =>
          have HNE : Hid (¬ ((a : Int) = st ∧ (d : Int) = g ∧ (b : Int) = ix)) := fun h => by have := h.2.2; rw [this] at hq3; simp at hq3
          go_wp2_with fail
          refine (HJF.out _ HL2.out).mono ?_
          rintro e wj ⟨rfl, hbj⟩
          have HBJ := Lib.hid (HB2.out.trans (hbj.mono HB2.out.size))
          clear hbj
          go_wp2_with fail
          refine (HTF.out _).mono ?_
          rintro e wk ⟨⟨T, rfl, hT⟩, hbk⟩
          have HBK := Lib.hid (HBJ.out.trans (hbk.mono HBJ.out.size))
          clear hbk
          obtain ⟨bb, hbb⟩ : ∃ b, blankB l = b := ⟨_, rfl⟩
          rw [hbb] at hT
          have HBB := Lib.hid hbb
          clear hbb
          cases bb with
          | true =>
            have HCV : Hid (classV l st g ix = 0) := absurd HBB.out (by rw [← (takeO_some HO.out).2.2, lay_not_blank]; simp)
            go_wp2_with fail
            go_ret
            exact ⟨by rw [HCV.out]; rfl, HBK.out⟩
          | false =>
            have HCV : Hid (classV l st g ix = 1) := (class_some HO.out st g ix).trans (if_neg HNE.out)
            go_wp2_with fail
            go_ret
            exact ⟨by rw [HCV.out]; rfl, HBK.out⟩
        | true =>
          have HCV : Hid (classV l st g ix = 2) := (class_some HO.out st g ix).trans (if_pos ⟨by simpa using hq1, by simpa using hq2, by simpa using hq3⟩)
          go_wp2_with fail
          go_ret
          exact ⟨by rw [HCV.out]; rfl, HB2.out⟩
end Go.Proofs.YtiminahobifomaaDoor
