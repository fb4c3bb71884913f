/- The reference's block, walked. -/
import Derived.Test.YtnpngkbcfkolnaaDigM
import Derived.Test.YtnpngkbcfkolnaaDigP
namespace Go.Proofs.Ytnpngkbcfkolnaa
open Go.ChangeShapes Go.WideShapes Go.ChangeAt Go.RowKit Go.Joins
set_option linter.unusedVariables false
set_option linter.unusedSimpArgs false
attribute [local go_sem ↓] Go.wp_at_zero Go.wp_at_succ

theorem info16 : (∀ w, (zeroValue 56).run Try.prog w = .ok (.agg (Array.replicate 16 (.int .i64 0))) w) ∧ (Try.prog.info? 56).map (·.size) = some 16 := zero_of_info (by kernel_rfl)
theorem nats_at {w : World} {g : Nat} {l : List Value} {v : Value} (h : CellsAt w g 0 l) {i : Nat} (hi : l[i]? = some v) : w.cell? ⟨g, i, none⟩ = some v := by
  obtain ⟨hl, e⟩ := List.getElem?_eq_some_iff.1 hi
  have := h.cell hl
  rw [Nat.zero_add] at this
  rw [this, e]
theorem word_at {w : World} {g n : Nat} {ms : List Int} (h : CellsAt w g 0 (u32s ms)) (hw : Words n ms) {a : Nat} (ha : a < n) : ∃ x : Int, w.cell? ⟨g, a, none⟩ = some (.int .u32 x) ∧ (0 ≤ x ∧ x < 4294967296) ∧ Hid (ms.getD a 0 = x) := by
  obtain ⟨h1, _⟩ := u32s_get h (hw.some ha)
  rw [Nat.zero_add] at h1
  exact ⟨_, h1, hw.get ha, rfl⟩

theorem words_next {s : ByteArray} {k q r c : Nat} {mv : Int} {w : World} {Bm : Nat} (hk : k < s.size) (h64 : s.size ≤ 64) (h : CellsAt w Bm 0 (u32s (wordsQ s k))) (hq : k / 4 = q) (hr : k % 4 = r) (hc : (s[k]'hk).toNat = c) (hmv : (wordsQ s k).getD q 0 = mv) :
    CellsAt (w.setCell ⟨Bm, q, none⟩ (.int .u32 (bits .or .u32 mv ((c : Int) * 2 ^ (8 * r) % 4294967296)))).drew Bm 0 (u32s (wordsQ s (k + 1))) := by
  have hl := (wordsQ_words s k).1
  have h1 := h.set (k := q) (by simp [u32s]; omega) (.int .u32 (bits .or .u32 mv ((c : Int) * 2 ^ (8 * r) % 4294967296)))
  rw [Nat.zero_add, u32s_set] at h1
  have e : wordsQ s (k + 1) = (wordsQ s k).set q (bits .or .u32 mv ((c : Int) * 2 ^ (8 * r) % 4294967296)) := by
    have hg : (s.data.toList.getD k 0).toNat = c := by
      rw [← hc, List.getD, List.getElem?_eq_getElem (by simpa using hk)]; rfl
    rw [wordsQ, range_step, ← wordsQ, wordsStep, hg, hq, hr, hmv]
  rw [e]
  exact h1.drew

/-- The sixteen words that a block begins with, so far as k of each half were laid. -/
def layQ (hs : List Int) (v : List Int) (i : Nat) : List Int := (v.set i (hs.getD i 0)).set (i + 8) (beginsL.getD i 0)
def laidQ (hs : List Int) (k : Nat) : List Int := (List.range k).foldl (layQ hs) (List.replicate 16 0)
theorem laidQ_all {hs : List Int} (h : hs.length = 8) : laidQ hs 8 = hs ++ beginsL := by
  match hs, h with
  | [a, b, c, d, e, f, g, i], _ => rfl
theorem laidQ_words {hs : List Int} (h : Words 8 hs) (k : Nat) (hk : k ≤ 8) : Words 16 (laidQ hs k) := by
  induction k with
  | zero => exact ⟨by simp [laidQ], fun x hx => by simp [laidQ] at hx; subst hx; omega⟩
  | succ k ih =>
    rw [laidQ, range_step, ← laidQ]
    exact ((ih (by omega)).set k (h.get (by omega))).set (k + 8) (begins_words.get (by omega))

theorem lay_next {wr : World} {Bm Bv Biv k : Nat} {ms hs : List Int} {x y : Int} {w : World} (hM : CellsAt wr Bm 0 (u32s ms)) (hV : CellsAt wr Bv 0 (u32s (laidQ hs k))) (hI : CellsAt wr Biv 0 (u32s beginsL)) (hB : Below w.heap.size w wr)
    (h1 : Bm ≠ Bv) (h2 : Biv ≠ Bv) (h3 : w.heap.size ≤ Bv) (hk : k < 8) (hw : Words 8 hs) (hx : hs.getD k 0 = x) (hy : beginsL.getD k 0 = y) :
    Hid (CellsAt ((wr.setCell ⟨Bv, k, none⟩ (.int .u32 x)).setCell ⟨Bv, k + 8, none⟩ (.int .u32 y)) Bm 0 (u32s ms)) ∧ Hid (CellsAt ((wr.setCell ⟨Bv, k, none⟩ (.int .u32 x)).setCell ⟨Bv, k + 8, none⟩ (.int .u32 y)) Bv 0 (u32s (laidQ hs (k + 1)))) ∧
    Hid (CellsAt ((wr.setCell ⟨Bv, k, none⟩ (.int .u32 x)).setCell ⟨Bv, k + 8, none⟩ (.int .u32 y)) Biv 0 (u32s beginsL)) ∧ Hid (Below w.heap.size w ((wr.setCell ⟨Bv, k, none⟩ (.int .u32 x)).setCell ⟨Bv, k + 8, none⟩ (.int .u32 y))) := by
  have hl := (laidQ_words hw k (by omega)).1
  refine ⟨(hM.set_far (Or.inl (Ne.symm h1)) _).set_far (Or.inl (Ne.symm h1)) _, ?_, (hI.set_far (Or.inl (Ne.symm h2)) _).set_far (Or.inl (Ne.symm h2)) _, (hB.setCell (p := ⟨Bv, k, none⟩) h3 _).setCell (p := ⟨Bv, k + 8, none⟩) h3 _⟩
  have e := (hV.set (k := k) (by simp [u32s, hl]; omega) (.int .u32 x)).set (k := k + 8) (by simp [u32s, hl]; omega) (.int .u32 y)
  rw [u32s_set, u32s_set, Nat.zero_add, Nat.zero_add] at e
  rw [Hid, laidQ, range_step, ← laidQ, layQ, hx, hy]
  exact e

set_option maxRecDepth 100000 in
set_option maxHeartbeats 2000000 in
theorem refBlock_any (gh : Nat) (hs : List Int) (s : ByteArray) (n : Nat) (last : Bool) (w : World) (hh : CellsAt w gh 0 (u32s hs)) (hw : Words 8 hs) (hs64 : s.size ≤ 64) (hn : n ≤ 1000000000) :
    Calls Try.prog 27 #[.pointer (some ⟨gh, 0, none⟩), .string s, .int .u64 (n : Int), .bool last] w fun e w' => e = .returned (.tuple #[]) ∧ CellsAt w' gh 0 (u32s (blockQ hs s n last)) ∧ Kept (· = gh) w w' := by
  have HH := Lib.hid hh
  clear hh
  obtain ⟨hz, hi⟩ := zero_of_info zero160
  obtain ⟨Z, hZ⟩ : ∃ Z : Array Value, Z = Array.replicate 160 (.int .i64 0) := ⟨_, rfl⟩
  have hZs : Z.size = 160 := by rw [hZ]; simp
  rw [← hZ] at hz
  clear hZ
  have hst := fun W => run_storeCells_new (P := Try.prog) W 57 Z rowsC (by rw [rowsC_size]; exact hi) (by rw [hZs, rowsC_size]) rowsC_one
  clear hZs hi
  go_enter Try.func27, Try.ntmps27
  go_wp2_with fail
  have hm0 : CellsAt (w.alloc (.cells #[.int .u32 0, .int .u32 0, .int .u32 0, .int .u32 0, .int .u32 0, .int .u32 0, .int .u32 0, .int .u32 0, .int .u32 0, .int .u32 0, .int .u32 0, .int .u32 0, .int .u32 0, .int .u32 0, .int .u32 0, .int .u32 0] 55)) w.heap.size 0 (u32s (wordsQ s 0)) := CellsAt.new _ _ _
  have hbw : Below w.heap.size w (w.alloc (.cells #[.int .u32 0, .int .u32 0, .int .u32 0, .int .u32 0, .int .u32 0, .int .u32 0, .int .u32 0, .int .u32 0, .int .u32 0, .int .u32 0, .int .u32 0, .int .u32 0, .int .u32 0, .int .u32 0, .int .u32 0, .int .u32 0] 55)) := (Below.refl _ _).alloc (Nat.le_refl _) _
  have hz1 : (w.alloc (.cells #[.int .u32 0, .int .u32 0, .int .u32 0, .int .u32 0, .int .u32 0, .int .u32 0, .int .u32 0, .int .u32 0, .int .u32 0, .int .u32 0, .int .u32 0, .int .u32 0, .int .u32 0, .int .u32 0, .int .u32 0, .int .u32 0] 55)).heap.size = w.heap.size + 1 := by simp
  generalize w.alloc (.cells #[.int .u32 0, .int .u32 0, .int .u32 0, .int .u32 0, .int .u32 0, .int .u32 0, .int .u32 0, .int .u32 0, .int .u32 0, .int .u32 0, .int .u32 0, .int .u32 0, .int .u32 0, .int .u32 0, .int .u32 0, .int .u32 0] 55) = W1 at *
  generalize hBm : w.heap.size = Bm at hm0 hz1
  go_loopw [9] (fun i wr => ∃ k : Nat, i = .int .i64 k ∧ k ≤ s.size ∧ Hid (CellsAt wr Bm 0 (u32s (wordsQ s k))) ∧ Hid (Below w.heap.size w wr)) (fun i _ => s.size - (intOf i).toNat)
  case atStart => exact ⟨0, rfl, by omega, hm0, hbw⟩
  case round =>
    obtain ⟨k, rfl, hk, HM, HK⟩ := hrel
    by_cases hlt : k < s.size
    · obtain ⟨q, hq⟩ : ∃ q : Nat, k / 4 = q := ⟨_, rfl⟩
      obtain ⟨r, hr⟩ : ∃ q : Nat, k % 4 = q := ⟨_, rfl⟩
      obtain ⟨m1, m2⟩ := u32s_get HM.out ((wordsQ_words s k).some (i := q) (by omega))
      have mb := (wordsQ_words s k).get (i := q) (by omega)
      rw [Nat.zero_add] at m1 m2
      generalize hmv : (wordsQ s k).getD q 0 = mv at m1 mb
      have HMV := Lib.hid hmv
      have i0 : (0 : Int) ≤ (k : Int) := by omega
      have i1 : (k : Int) < (s.size : Int) := by omega
      have i2 : (0 : Int) ≤ (q : Int) := by omega
      have i3 : (q : Int) < 16 := by omega
      have i4 : (0 : Int) ≤ (r : Int) := by omega
      have i5 : (r : Int) < 4 := by omega
      have e1 : IntKind.i64.wrap ((k : Int) / 4) = (q : Int) := by rw [IntWalk.i64_in _ (by omega)]; omega
      have e2 : (k : Int).tmod 4 = (r : Int) := by rw [Int.tmod_eq_emod_of_nonneg (by omega)]; omega
      obtain ⟨c, hc, hc2⟩ : ∃ c : Nat, (s[k]'hlt).toNat = c ∧ c < 256 := ⟨_, rfl, UInt8.toNat_lt _⟩
      have e4 : IntKind.u32.wrap ((s[k]'hlt).toNat : Int) = (c : Int) := by rw [hc, IntKind.wrap_u32]; omega
      have HC := Lib.hid hc
      have e3 : IntKind.i64.wrap (8 * (r : Int)) = 8 * (r : Int) := by rw [IntWalk.i64_in _ (by omega)]
      have HQ := Lib.hid hq
      have HR := Lib.hid hr
      clear hmv hq hr hc
      go_wp2_with fail
      go_still_tail 16, (by kernel_rfl)
      change wpList _ _ _ _ _ (World.drew _)
      go_wp2_with fail
      go_roundw
      case rel => exact ⟨k + 1, by go_num, by omega, words_next hlt hs64 HM.out HQ.out HR.out HC.out HMV.out, Lib.hid ((HK.out.setCell (p := ⟨Bm, q, none⟩) (by show _ ≤ Bm; omega) _).drew)⟩
      case measure => simp [intOf]; omega
    · have hke : k = s.size := by omega
      rw [hke] at HM
      have hsz1 := HK.out.size
      have hsz2 : Bm < wr.heap.size := HM.out.1
      clear hke hm0 hz1 hbw
      go_wp2_with (first | (go_at_call 26; refine (refBegins_lit _).mono ?_; rintro e W2 ⟨rfl, hb2⟩))
      have hz2 := hb2.size
      simp only [World.size_alloc] at hz2
      have HM3 : Hid (CellsAt (W2.alloc (.cells #[.int .u32 1779033703, .int .u32 3144134277, .int .u32 1013904242, .int .u32 2773480762, .int .u32 1359893119, .int .u32 2600822924, .int .u32 528734635, .int .u32 1541459225] 45)) Bm 0 (u32s (wordsQ s s.size))) := ((HM.out.alloc _).below hb2).alloc _
      have HV3 : Hid (CellsAt (W2.alloc (.cells #[.int .u32 1779033703, .int .u32 3144134277, .int .u32 1013904242, .int .u32 2773480762, .int .u32 1359893119, .int .u32 2600822924, .int .u32 528734635, .int .u32 1541459225] 45)) wr.heap.size 0 (u32s (laidQ hs 0))) := ((CellsAt.new wr #[.int .u32 0, .int .u32 0, .int .u32 0, .int .u32 0, .int .u32 0, .int .u32 0, .int .u32 0, .int .u32 0, .int .u32 0, .int .u32 0, .int .u32 0, .int .u32 0, .int .u32 0, .int .u32 0, .int .u32 0, .int .u32 0] 55).below hb2).alloc _
      have HI3 : Hid (CellsAt (W2.alloc (.cells #[.int .u32 1779033703, .int .u32 3144134277, .int .u32 1013904242, .int .u32 2773480762, .int .u32 1359893119, .int .u32 2600822924, .int .u32 528734635, .int .u32 1541459225] 45)) W2.heap.size 0 (u32s beginsL)) := CellsAt.new _ _ _
      have HB3 : Hid (Below w.heap.size w (W2.alloc (.cells #[.int .u32 1779033703, .int .u32 3144134277, .int .u32 1013904242, .int .u32 2773480762, .int .u32 1359893119, .int .u32 2600822924, .int .u32 528734635, .int .u32 1541459225] 45))) := ((((HK.out.alloc hsz1 _).trans (hb2.mono (by simp; omega)))).alloc (by omega) _)
      have hz3 : (W2.alloc (.cells #[.int .u32 1779033703, .int .u32 3144134277, .int .u32 1013904242, .int .u32 2773480762, .int .u32 1359893119, .int .u32 2600822924, .int .u32 528734635, .int .u32 1541459225] 45)).heap.size = W2.heap.size + 1 := by simp
      clear hb2 HM HK
      generalize W2.alloc (.cells #[.int .u32 1779033703, .int .u32 3144134277, .int .u32 1013904242, .int .u32 2773480762, .int .u32 1359893119, .int .u32 2600822924, .int .u32 528734635, .int .u32 1541459225] 45) = W3 at *
      generalize W2.heap.size = Biv at *
      generalize hBv : wr.heap.size = Bv at *
      clear W2
      go_loopw [12] (fun i wr => ∃ k : Nat, i = .int .i64 k ∧ k ≤ 8 ∧ Hid (CellsAt wr Bm 0 (u32s (wordsQ s s.size))) ∧ Hid (CellsAt wr Bv 0 (u32s (laidQ hs k))) ∧ Hid (CellsAt wr Biv 0 (u32s beginsL)) ∧ Hid (Below w.heap.size w wr)) (fun i _ => 8 - (intOf i).toNat)
      case atStart => exact ⟨0, rfl, by omega, HM3, HV3, HI3, HB3⟩
      case round =>
        clear HM3 HV3 HI3 HB3
        obtain ⟨k, rfl, hk, HM, HV, HI, HB⟩ := hrel
        by_cases hlt : k < 8
        · have hkd : decide ((k : Int) < 8) = true := by simp; omega
          obtain ⟨h1, _⟩ := u32s_get (w := wr) (g := gh) (o := 0) ⟨Nat.lt_of_lt_of_le HH.out.1 HB.out.size, fun i hi => ⟨by rw [HB.out.cell (p := ⟨gh, 0 + i, none⟩) HH.out.1]; exact (HH.out.2 i hi).1, by rw [HB.out.frozen (p := ⟨gh, 0 + i, none⟩) HH.out.1]; exact (HH.out.2 i hi).2⟩⟩ (hw.some hlt)
          obtain ⟨h2, _⟩ := u32s_get HI.out (begins_words.some hlt)
          obtain ⟨h3, f3⟩ := u32s_get HV.out ((laidQ_words hw k hk).some (i := k) (by omega))
          obtain ⟨h4, f4⟩ := u32s_get HV.out ((laidQ_words hw k hk).some (i := k + 8) (by omega))
          rw [Nat.zero_add] at h1 h2 h3 h4 f3 f4
          generalize hx : hs.getD k 0 = x at h1
          generalize hy : beginsL.getD k 0 = y at h2
          generalize (laidQ hs k).getD k 0 = z1 at h3
          generalize (laidQ hs k).getD (k + 8) 0 = z2 at h4
          have HX := Lib.hid hx
          have HY := Lib.hid hy
          clear hx hy
          have i0 : (0 : Int) ≤ (k : Int) := by omega
          have i1 : (k : Int) + 8 < 16 := by omega
          have i2 : (0 : Int) ≤ (k : Int) + 8 := by omega
          have i3 : (k : Int) < 16 := by omega
          have e1 : IntKind.i64.wrap ((k : Int) + 8) = (k : Int) + 8 := by rw [IntWalk.i64_in _ (by omega)]
          have e2 : ((k : Int) + 8).toNat = k + 8 := by omega
          have hne : gh ≠ Bv := by have := HH.out.1; omega
          have hne2 : Biv ≠ Bv := by omega
          go_wp2_with fail
          go_region_with (fail)
          all_goals
            go_wp2_with fail
            go_roundw
            case rel =>
              obtain ⟨r1, r2, r3, r4⟩ := lay_next (w := w) (ms := wordsQ s s.size) (hs := hs) HM.out HV.out HI.out HB.out (by omega) hne2 hsz1 hlt hw HX.out HY.out
              exact ⟨k + 1, by go_num, by omega, r1, r2, r3, Lib.hid (Below.drew r4.out)⟩
            case measure => simp [intOf]; omega
        · obtain rfl : k = 8 := by omega
          have e8 := laidQ_all hw.1
          rw [e8] at HV
          have hwv : Words 16 (hs ++ beginsL) := hw.append begins_words
          have hvl := hwv.1
          obtain ⟨h3, f3⟩ := u32s_get HV.out (hwv.some (i := 12) (by omega))
          obtain ⟨h4, f4⟩ := u32s_get HV.out (hwv.some (i := 13) (by omega))
          obtain ⟨h5, f5⟩ := u32s_get HV.out (hwv.some (i := 14) (by omega))
          rw [Nat.zero_add] at h3 h4 h5 f3 f4 f5
          obtain ⟨v12, e12⟩ : ∃ x, (hs ++ beginsL).getD 12 0 = x := ⟨_, rfl⟩
          obtain ⟨v13, e13⟩ : ∃ x, (hs ++ beginsL).getD 13 0 = x := ⟨_, rfl⟩
          obtain ⟨v14, e14⟩ : ∃ x, (hs ++ beginsL).getD 14 0 = x := ⟨_, rfl⟩
          rw [e12] at h3; rw [e13] at h4; rw [e14] at h5
          have E12 := Lib.hid e12; have E13 := Lib.hid e13; have E14 := Lib.hid e14
          clear e12 e13 e14 hvl e8
          have q1 : IntKind.u32.wrap (n : Int) = (n : Int) := by rw [IntKind.wrap_u32]; omega
          have q2 : (n : Int) / 4294967296 = 0 := by omega
          obtain ⟨st1, st2⟩ := start_st (n := n) HM.out HV.out HB.out (show Bm ≠ Bv by omega) hsz1 hw E12.out E13.out E14.out
          go_upto_if 70 with (fail)
          go_cut [] from 71 to 74 (fun wx => Hid (St w wx Bm Bv (wordsQ s s.size) (startQ hs n last)))
          case first =>
            cases last
            · go_wp2_with fail
              go_meet
              exact st1
            · go_wp2_with fail
              go_meet
              exact st2
          case rest =>
          have HS := hcut
          clear hcut st1 st2 HM HV HI HB h3 h4 h5 f3 f4 f5 E12 E13 E14
          go_wp2_with (first | (go_at_call 32; refine (refRows_any _).mono ?_; rintro e W5 ⟨rfl, hb5⟩))
          have HS6 := Lib.hid ((HS.out.below hb5).alloc (.cells rowsC 57))
          have HL6 := Lib.hid (CellsAt.new W5 rowsC 57)
          have hsz5 : Bv < W5.heap.size := Nat.lt_of_lt_of_le HS.out.v.1 hb5.size
          clear hb5 HS
          generalize hW6 : W5.alloc (.cells rowsC 57) = W6 at *
          generalize hBl : W5.heap.size = Bl at *
          clear hW6
          obtain ⟨v0, hv0⟩ : ∃ v0, v0 = startQ hs n last := ⟨_, rfl⟩
          have hwv0 : Words 16 v0 := by rw [hv0]; exact startQ_words hw n last
          rw [← hv0] at HS6
          have HV0 := Lib.hid hv0
          clear hv0
          obtain ⟨ms, hms⟩ : ∃ ms, ms = wordsQ s s.size := ⟨_, rfl⟩
          have hwms : Words 16 ms := by rw [hms]; exact wordsQ_words _ _
          rw [← hms] at HS6
          have HMS := Lib.hid hms
          clear hms
          go_loopw [14] (fun i wr => ∃ r : Nat, i = .int .i64 r ∧ r ≤ 10 ∧ Hid (St w wr Bm Bv ms (roundsQ ms v0 r)) ∧ Hid (CellsAt wr Bl 0 rowsC.toList)) (fun i _ => 10 - (intOf i).toNat)
          case atStart => exact ⟨0, rfl, by omega, HS6, HL6⟩
          case round =>
            clear HS6 HL6
            obtain ⟨r, rfl, hr, HS, HL⟩ := hrel
            by_cases hr10 : r < 10
            · have hrd : decide ((r : Int) < 10) = true := by simp; omega
              obtain ⟨wq, rfl⟩ : ∃ wq : World, wq = wr := ⟨_, rfl⟩
              obtain ⟨a0, a1, a2, a3, a4, a5, a6, a7, a8, a9, a10, a11, a12, a13, a14, a15, k0, k1, k2, k3, k4, k5, k6, k7, k8, k9, k10, k11, k12, k13, k14, k15, l0, l1, l2, l3, l4, l5, l6, l7, l8, l9, l10, l11, l12, l13, l14, l15, E0, E1, E2, E3, E4, E5, E6, E7, E8, E9, E10, E11, E12, E13, E14, E15⟩ := row16 HL.out hr10
              have j0 : (0 : Int) ≤ (r : Int) := by omega
              have j1 : (r : Int) < 10 := by omega
              go_wp2_with fail
              have HS7 := Lib.hid (HS.out.alloc (.cells #[.int .i64 (a0 : Int), .int .i64 (a1 : Int), .int .i64 (a2 : Int), .int .i64 (a3 : Int), .int .i64 (a4 : Int), .int .i64 (a5 : Int), .int .i64 (a6 : Int), .int .i64 (a7 : Int), .int .i64 (a8 : Int), .int .i64 (a9 : Int), .int .i64 (a10 : Int), .int .i64 (a11 : Int), .int .i64 (a12 : Int), .int .i64 (a13 : Int), .int .i64 (a14 : Int), .int .i64 (a15 : Int)] 56))
              have HL7 := Lib.hid (HL.out.alloc (.cells #[.int .i64 (a0 : Int), .int .i64 (a1 : Int), .int .i64 (a2 : Int), .int .i64 (a3 : Int), .int .i64 (a4 : Int), .int .i64 (a5 : Int), .int .i64 (a6 : Int), .int .i64 (a7 : Int), .int .i64 (a8 : Int), .int .i64 (a9 : Int), .int .i64 (a10 : Int), .int .i64 (a11 : Int), .int .i64 (a12 : Int), .int .i64 (a13 : Int), .int .i64 (a14 : Int), .int .i64 (a15 : Int)] 56))
              have HK7 := Lib.hid (CellsAt.new wq #[.int .i64 (a0 : Int), .int .i64 (a1 : Int), .int .i64 (a2 : Int), .int .i64 (a3 : Int), .int .i64 (a4 : Int), .int .i64 (a5 : Int), .int .i64 (a6 : Int), .int .i64 (a7 : Int), .int .i64 (a8 : Int), .int .i64 (a9 : Int), .int .i64 (a10 : Int), .int .i64 (a11 : Int), .int .i64 (a12 : Int), .int .i64 (a13 : Int), .int .i64 (a14 : Int), .int .i64 (a15 : Int)] 56)
              have hk7 : Bl < wq.heap.size := HL.out.1
              clear k0 k1 k2 k3 k4 k5 k6 k7 k8 k9 k10 k11 k12 k13 k14 k15 HS HL
              generalize hW7 : wq.alloc (.cells #[.int .i64 (a0 : Int), .int .i64 (a1 : Int), .int .i64 (a2 : Int), .int .i64 (a3 : Int), .int .i64 (a4 : Int), .int .i64 (a5 : Int), .int .i64 (a6 : Int), .int .i64 (a7 : Int), .int .i64 (a8 : Int), .int .i64 (a9 : Int), .int .i64 (a10 : Int), .int .i64 (a11 : Int), .int .i64 (a12 : Int), .int .i64 (a13 : Int), .int .i64 (a14 : Int), .int .i64 (a15 : Int)] 56) = W7 at *
              generalize hBk : wq.heap.size = Bk at *
              clear hW7
              have hwv := roundsQ_words (ms := ms) r hwv0
              obtain ⟨u0, hu0⟩ : ∃ u0, u0 = roundsQ ms v0 r := ⟨_, rfl⟩
              rw [← hu0] at HS7 hwv
              have HU0 := Lib.hid hu0
              clear hu0
              have hw0 := hwv
              clear hwv
              have k0 := nats_at HK7.out (i := 0) rfl
              have k1 := nats_at HK7.out (i := 1) rfl
              obtain ⟨x0, m0, c0, X0⟩ := word_at HS7.out.m hwms l0
              obtain ⟨y0, n0, d0, Y0⟩ := word_at HS7.out.m hwms l1
              have ja0 : (0 : Int) ≤ (a0 : Int) := by omega
              have jb0 : (a0 : Int) < 16 := by omega
              have ja1 : (0 : Int) ≤ (a1 : Int) := by omega
              have jb1 : (a1 : Int) < 16 := by omega
              go_wp2_with fail
              go_still_tail 8, (by kernel_rfl)
              change wpList _ _ _ _ _ (World.drew _)
              go_wp2_with fail
              refine (refMix_any Bv u0 0 4 8 12 _ _ _ _ x0 y0 _ (four_of HS7.out.v.drew hw0 (by omega)) c0 d0).mono ?_
              rintro e V0 hmx
              obtain ⟨rfl, hc, hkp⟩ := mixed_of hmx
              clear hmx
              have hsp : Hid (mixAt u0 0 4 8 12 x0 y0 = stepQ ms r u0 0) := by rw [Hid, stepQ_0, ← E0.out, ← E1.out, X0.out, Y0.out]
              obtain ⟨u1, hu1⟩ : ∃ u, u = mixAt u0 0 4 8 12 x0 y0 := ⟨_, rfl⟩
              have hw1 : Words 16 u1 := by rw [hu1]; exact mixAt_words hw0 _ _ _ _ _ _
              rw [← hu1] at hc hsp
              have HSP0 := hsp
              have HT0 := Lib.hid (HS7.out.drew.mixed (by omega) hsz1 hc hkp)
              have HLT0 := Lib.hid (HL7.out.drew.kept hkp (show ¬ Bl = Bv by omega))
              have HKT0 := Lib.hid (HK7.out.drew.kept hkp (show ¬ Bk = Bv by omega))
              clear hc hkp hsp hu1 k0 k1 m0 n0 c0 d0 X0 Y0 ja0 jb0 ja1 jb1 HS7 HL7 HK7 hw0
              have k2 := nats_at HKT0.out (i := 2) rfl
              have k3 := nats_at HKT0.out (i := 3) rfl
              obtain ⟨x1, m1, c1, X1⟩ := word_at HT0.out.m hwms l2
              obtain ⟨y1, n1, d1, Y1⟩ := word_at HT0.out.m hwms l3
              have ja2 : (0 : Int) ≤ (a2 : Int) := by omega
              have jb2 : (a2 : Int) < 16 := by omega
              have ja3 : (0 : Int) ≤ (a3 : Int) := by omega
              have jb3 : (a3 : Int) < 16 := by omega
              go_wp2_with fail
              go_still_tail 8, (by kernel_rfl)
              change wpList _ _ _ _ _ (World.drew _)
              go_wp2_with fail
              refine (refMix_any Bv u1 1 5 9 13 _ _ _ _ x1 y1 _ (four_of HT0.out.v.drew hw1 (by omega)) c1 d1).mono ?_
              rintro e V1 hmx
              obtain ⟨rfl, hc, hkp⟩ := mixed_of hmx
              clear hmx
              have hsp : Hid (mixAt u1 1 5 9 13 x1 y1 = stepQ ms r u1 1) := by rw [Hid, stepQ_1, ← E2.out, ← E3.out, X1.out, Y1.out]
              obtain ⟨u2, hu2⟩ : ∃ u, u = mixAt u1 1 5 9 13 x1 y1 := ⟨_, rfl⟩
              have hw2 : Words 16 u2 := by rw [hu2]; exact mixAt_words hw1 _ _ _ _ _ _
              rw [← hu2] at hc hsp
              have HSP1 := hsp
              have HT1 := Lib.hid (HT0.out.drew.mixed (by omega) hsz1 hc hkp)
              have HLT1 := Lib.hid (HLT0.out.drew.kept hkp (show ¬ Bl = Bv by omega))
              have HKT1 := Lib.hid (HKT0.out.drew.kept hkp (show ¬ Bk = Bv by omega))
              clear hc hkp hsp hu2 k2 k3 m1 n1 c1 d1 X1 Y1 ja2 jb2 ja3 jb3 HT0 HLT0 HKT0 hw1
              have k4 := nats_at HKT1.out (i := 4) rfl
              have k5 := nats_at HKT1.out (i := 5) rfl
              obtain ⟨x2, m2, c2, X2⟩ := word_at HT1.out.m hwms l4
              obtain ⟨y2, n2, d2, Y2⟩ := word_at HT1.out.m hwms l5
              have ja4 : (0 : Int) ≤ (a4 : Int) := by omega
              have jb4 : (a4 : Int) < 16 := by omega
              have ja5 : (0 : Int) ≤ (a5 : Int) := by omega
              have jb5 : (a5 : Int) < 16 := by omega
              go_wp2_with fail
              go_still_tail 8, (by kernel_rfl)
              change wpList _ _ _ _ _ (World.drew _)
              go_wp2_with fail
              refine (refMix_any Bv u2 2 6 10 14 _ _ _ _ x2 y2 _ (four_of HT1.out.v.drew hw2 (by omega)) c2 d2).mono ?_
              rintro e V2 hmx
              obtain ⟨rfl, hc, hkp⟩ := mixed_of hmx
              clear hmx
              have hsp : Hid (mixAt u2 2 6 10 14 x2 y2 = stepQ ms r u2 2) := by rw [Hid, stepQ_2, ← E4.out, ← E5.out, X2.out, Y2.out]
              obtain ⟨u3, hu3⟩ : ∃ u, u = mixAt u2 2 6 10 14 x2 y2 := ⟨_, rfl⟩
              have hw3 : Words 16 u3 := by rw [hu3]; exact mixAt_words hw2 _ _ _ _ _ _
              rw [← hu3] at hc hsp
              have HSP2 := hsp
              have HT2 := Lib.hid (HT1.out.drew.mixed (by omega) hsz1 hc hkp)
              have HLT2 := Lib.hid (HLT1.out.drew.kept hkp (show ¬ Bl = Bv by omega))
              have HKT2 := Lib.hid (HKT1.out.drew.kept hkp (show ¬ Bk = Bv by omega))
              clear hc hkp hsp hu3 k4 k5 m2 n2 c2 d2 X2 Y2 ja4 jb4 ja5 jb5 HT1 HLT1 HKT1 hw2
              have k6 := nats_at HKT2.out (i := 6) rfl
              have k7 := nats_at HKT2.out (i := 7) rfl
              obtain ⟨x3, m3, c3, X3⟩ := word_at HT2.out.m hwms l6
              obtain ⟨y3, n3, d3, Y3⟩ := word_at HT2.out.m hwms l7
              have ja6 : (0 : Int) ≤ (a6 : Int) := by omega
              have jb6 : (a6 : Int) < 16 := by omega
              have ja7 : (0 : Int) ≤ (a7 : Int) := by omega
              have jb7 : (a7 : Int) < 16 := by omega
              go_wp2_with fail
              go_still_tail 8, (by kernel_rfl)
              change wpList _ _ _ _ _ (World.drew _)
              go_wp2_with fail
              refine (refMix_any Bv u3 3 7 11 15 _ _ _ _ x3 y3 _ (four_of HT2.out.v.drew hw3 (by omega)) c3 d3).mono ?_
              rintro e V3 hmx
              obtain ⟨rfl, hc, hkp⟩ := mixed_of hmx
              clear hmx
              have hsp : Hid (mixAt u3 3 7 11 15 x3 y3 = stepQ ms r u3 3) := by rw [Hid, stepQ_3, ← E6.out, ← E7.out, X3.out, Y3.out]
              obtain ⟨u4, hu4⟩ : ∃ u, u = mixAt u3 3 7 11 15 x3 y3 := ⟨_, rfl⟩
              have hw4 : Words 16 u4 := by rw [hu4]; exact mixAt_words hw3 _ _ _ _ _ _
              rw [← hu4] at hc hsp
              have HSP3 := hsp
              have HT3 := Lib.hid (HT2.out.drew.mixed (by omega) hsz1 hc hkp)
              have HLT3 := Lib.hid (HLT2.out.drew.kept hkp (show ¬ Bl = Bv by omega))
              have HKT3 := Lib.hid (HKT2.out.drew.kept hkp (show ¬ Bk = Bv by omega))
              clear hc hkp hsp hu4 k6 k7 m3 n3 c3 d3 X3 Y3 ja6 jb6 ja7 jb7 HT2 HLT2 HKT2 hw3
              have k8 := nats_at HKT3.out (i := 8) rfl
              have k9 := nats_at HKT3.out (i := 9) rfl
              obtain ⟨x4, m4, c4, X4⟩ := word_at HT3.out.m hwms l8
              obtain ⟨y4, n4, d4, Y4⟩ := word_at HT3.out.m hwms l9
              have ja8 : (0 : Int) ≤ (a8 : Int) := by omega
              have jb8 : (a8 : Int) < 16 := by omega
              have ja9 : (0 : Int) ≤ (a9 : Int) := by omega
              have jb9 : (a9 : Int) < 16 := by omega
              go_wp2_with fail
              go_still_tail 8, (by kernel_rfl)
              change wpList _ _ _ _ _ (World.drew _)
              go_wp2_with fail
              refine (refMix_any Bv u4 0 5 10 15 _ _ _ _ x4 y4 _ (four_of HT3.out.v.drew hw4 (by omega)) c4 d4).mono ?_
              rintro e V4 hmx
              obtain ⟨rfl, hc, hkp⟩ := mixed_of hmx
              clear hmx
              have hsp : Hid (mixAt u4 0 5 10 15 x4 y4 = stepQ ms r u4 4) := by rw [Hid, stepQ_4, ← E8.out, ← E9.out, X4.out, Y4.out]
              obtain ⟨u5, hu5⟩ : ∃ u, u = mixAt u4 0 5 10 15 x4 y4 := ⟨_, rfl⟩
              have hw5 : Words 16 u5 := by rw [hu5]; exact mixAt_words hw4 _ _ _ _ _ _
              rw [← hu5] at hc hsp
              have HSP4 := hsp
              have HT4 := Lib.hid (HT3.out.drew.mixed (by omega) hsz1 hc hkp)
              have HLT4 := Lib.hid (HLT3.out.drew.kept hkp (show ¬ Bl = Bv by omega))
              have HKT4 := Lib.hid (HKT3.out.drew.kept hkp (show ¬ Bk = Bv by omega))
              clear hc hkp hsp hu5 k8 k9 m4 n4 c4 d4 X4 Y4 ja8 jb8 ja9 jb9 HT3 HLT3 HKT3 hw4
              have k10 := nats_at HKT4.out (i := 10) rfl
              have k11 := nats_at HKT4.out (i := 11) rfl
              obtain ⟨x5, m5, c5, X5⟩ := word_at HT4.out.m hwms l10
              obtain ⟨y5, n5, d5, Y5⟩ := word_at HT4.out.m hwms l11
              have ja10 : (0 : Int) ≤ (a10 : Int) := by omega
              have jb10 : (a10 : Int) < 16 := by omega
              have ja11 : (0 : Int) ≤ (a11 : Int) := by omega
              have jb11 : (a11 : Int) < 16 := by omega
              go_wp2_with fail
              go_still_tail 8, (by kernel_rfl)
              change wpList _ _ _ _ _ (World.drew _)
              go_wp2_with fail
              refine (refMix_any Bv u5 1 6 11 12 _ _ _ _ x5 y5 _ (four_of HT4.out.v.drew hw5 (by omega)) c5 d5).mono ?_
              rintro e V5 hmx
              obtain ⟨rfl, hc, hkp⟩ := mixed_of hmx
              clear hmx
              have hsp : Hid (mixAt u5 1 6 11 12 x5 y5 = stepQ ms r u5 5) := by rw [Hid, stepQ_5, ← E10.out, ← E11.out, X5.out, Y5.out]
              obtain ⟨u6, hu6⟩ : ∃ u, u = mixAt u5 1 6 11 12 x5 y5 := ⟨_, rfl⟩
              have hw6 : Words 16 u6 := by rw [hu6]; exact mixAt_words hw5 _ _ _ _ _ _
              rw [← hu6] at hc hsp
              have HSP5 := hsp
              have HT5 := Lib.hid (HT4.out.drew.mixed (by omega) hsz1 hc hkp)
              have HLT5 := Lib.hid (HLT4.out.drew.kept hkp (show ¬ Bl = Bv by omega))
              have HKT5 := Lib.hid (HKT4.out.drew.kept hkp (show ¬ Bk = Bv by omega))
              clear hc hkp hsp hu6 k10 k11 m5 n5 c5 d5 X5 Y5 ja10 jb10 ja11 jb11 HT4 HLT4 HKT4 hw5
              have k12 := nats_at HKT5.out (i := 12) rfl
              have k13 := nats_at HKT5.out (i := 13) rfl
              obtain ⟨x6, m6, c6, X6⟩ := word_at HT5.out.m hwms l12
              obtain ⟨y6, n6, d6, Y6⟩ := word_at HT5.out.m hwms l13
              have ja12 : (0 : Int) ≤ (a12 : Int) := by omega
              have jb12 : (a12 : Int) < 16 := by omega
              have ja13 : (0 : Int) ≤ (a13 : Int) := by omega
              have jb13 : (a13 : Int) < 16 := by omega
              go_wp2_with fail
              go_still_tail 8, (by kernel_rfl)
              change wpList _ _ _ _ _ (World.drew _)
              go_wp2_with fail
              refine (refMix_any Bv u6 2 7 8 13 _ _ _ _ x6 y6 _ (four_of HT5.out.v.drew hw6 (by omega)) c6 d6).mono ?_
              rintro e V6 hmx
              obtain ⟨rfl, hc, hkp⟩ := mixed_of hmx
              clear hmx
              have hsp : Hid (mixAt u6 2 7 8 13 x6 y6 = stepQ ms r u6 6) := by rw [Hid, stepQ_6, ← E12.out, ← E13.out, X6.out, Y6.out]
              obtain ⟨u7, hu7⟩ : ∃ u, u = mixAt u6 2 7 8 13 x6 y6 := ⟨_, rfl⟩
              have hw7 : Words 16 u7 := by rw [hu7]; exact mixAt_words hw6 _ _ _ _ _ _
              rw [← hu7] at hc hsp
              have HSP6 := hsp
              have HT6 := Lib.hid (HT5.out.drew.mixed (by omega) hsz1 hc hkp)
              have HLT6 := Lib.hid (HLT5.out.drew.kept hkp (show ¬ Bl = Bv by omega))
              have HKT6 := Lib.hid (HKT5.out.drew.kept hkp (show ¬ Bk = Bv by omega))
              clear hc hkp hsp hu7 k12 k13 m6 n6 c6 d6 X6 Y6 ja12 jb12 ja13 jb13 HT5 HLT5 HKT5 hw6
              have k14 := nats_at HKT6.out (i := 14) rfl
              have k15 := nats_at HKT6.out (i := 15) rfl
              obtain ⟨x7, m7, c7, X7⟩ := word_at HT6.out.m hwms l14
              obtain ⟨y7, n7, d7, Y7⟩ := word_at HT6.out.m hwms l15
              have ja14 : (0 : Int) ≤ (a14 : Int) := by omega
              have jb14 : (a14 : Int) < 16 := by omega
              have ja15 : (0 : Int) ≤ (a15 : Int) := by omega
              have jb15 : (a15 : Int) < 16 := by omega
              go_wp2_with fail
              go_still_tail 8, (by kernel_rfl)
              change wpList _ _ _ _ _ (World.drew _)
              go_wp2_with fail
              refine (refMix_any Bv u7 3 4 9 14 _ _ _ _ x7 y7 _ (four_of HT6.out.v.drew hw7 (by omega)) c7 d7).mono ?_
              rintro e V7 hmx
              obtain ⟨rfl, hc, hkp⟩ := mixed_of hmx
              clear hmx
              have hsp : Hid (mixAt u7 3 4 9 14 x7 y7 = stepQ ms r u7 7) := by rw [Hid, stepQ_7, ← E14.out, ← E15.out, X7.out, Y7.out]
              obtain ⟨u8, hu8⟩ : ∃ u, u = mixAt u7 3 4 9 14 x7 y7 := ⟨_, rfl⟩
              have hw8 : Words 16 u8 := by rw [hu8]; exact mixAt_words hw7 _ _ _ _ _ _
              rw [← hu8] at hc hsp
              have HSP7 := hsp
              have HT7 := Lib.hid (HT6.out.drew.mixed (by omega) hsz1 hc hkp)
              have HLT7 := Lib.hid (HLT6.out.drew.kept hkp (show ¬ Bl = Bv by omega))
              have HKT7 := Lib.hid (HKT6.out.drew.kept hkp (show ¬ Bk = Bv by omega))
              clear hc hkp hsp hu8 k14 k15 m7 n7 c7 d7 X7 Y7 ja14 jb14 ja15 jb15 HT6 HLT6 HKT6 hw7
              go_wp2_with fail
              go_roundw
              case rel =>
                have he : u8 = roundsQ ms v0 (r + 1) := by
                  rw [roundsQ, range_step, ← roundsQ, ← HU0.out, roundQ_eq, ← HSP0.out, ← HSP1.out, ← HSP2.out, ← HSP3.out, ← HSP4.out, ← HSP5.out, ← HSP6.out, ← HSP7.out]
                have hz := HT7.out
                rw [he] at hz
                exact ⟨r + 1, by go_num, by omega, Lib.hid hz, HLT7⟩
              case measure => simp [intOf]; omega
            · have hre : r = 10 := by omega
              rw [hre] at HS
              clear hre
              obtain ⟨vs, hvs⟩ : ∃ vs, vs = roundsQ ms v0 10 := ⟨_, rfl⟩
              have hwvs : Words 16 vs := by rw [hvs]; exact roundsQ_words 10 hwv0
              rw [← hvs] at HS
              have HVS := Lib.hid hvs
              have hHw : CellsAt wr gh 0 (u32s (endK hs vs 0)) := ⟨Nat.lt_of_lt_of_le HH.out.1 HS.out.b.size, fun i hi => ⟨by rw [HS.out.b.cell (p := ⟨gh, 0 + i, none⟩) HH.out.1]; exact (HH.out.2 i hi).1, by rw [HS.out.b.frozen (p := ⟨gh, 0 + i, none⟩) HH.out.1]; exact (HH.out.2 i hi).2⟩⟩
              have HG := Lib.hid hHw
              have HKP : Hid (Kept (· = gh) w wr) := Kept.of_below HS.out.b
              have HV := Lib.hid HS.out.v
              have hgv : gh ≠ Bv := by have := HH.out.1; omega
              clear hvs hHw HL HS
              go_wp2_with fail
              go_loopw [16] (fun i wr => ∃ k : Nat, i = .int .i64 k ∧ k ≤ 8 ∧ Hid (CellsAt wr gh 0 (u32s (endK hs vs k))) ∧ Hid (CellsAt wr Bv 0 (u32s vs)) ∧ Hid (Kept (· = gh) w wr)) (fun i _ => 8 - (intOf i).toNat)
              case atStart => exact ⟨0, rfl, by omega, HG, HV, HKP⟩
              case round =>
                clear HG HV HKP
                obtain ⟨k, rfl, hk, HG, HV, HKP⟩ := hrel
                by_cases hlt : k < 8
                · have hkd : decide ((k : Int) < 8) = true := by simp; omega
                  obtain ⟨h1, f1⟩ := u32s_get HG.out ((endK_words hw k).some (i := k) (by omega))
                  obtain ⟨h2, _⟩ := u32s_get HV.out (hwvs.some (i := k) (by omega))
                  obtain ⟨h3, _⟩ := u32s_get HV.out (hwvs.some (i := k + 8) (by omega))
                  rw [endK_later k k (Nat.le_refl _)] at h1
                  rw [Nat.zero_add] at h1 h2 h3 f1
                  generalize hx : hs.getD k 0 = x at h1
                  generalize hy : vs.getD k 0 = y at h2
                  generalize hz : vs.getD (k + 8) 0 = z at h3
                  have HX := Lib.hid hx
                  have HY := Lib.hid hy
                  have HZ := Lib.hid hz
                  clear hx hy hz
                  have i0 : (0 : Int) ≤ (k : Int) := by omega
                  have i1 : (k : Int) + 8 < 16 := by omega
                  have i2 : (0 : Int) ≤ (k : Int) + 8 := by omega
                  have i3 : (k : Int) < 16 := by omega
                  have i4 : (k : Int) < 8 := by omega
                  have e1 : IntKind.i64.wrap ((k : Int) + 8) = (k : Int) + 8 := by rw [IntWalk.i64_in _ (by omega)]
                  have e2 : ((k : Int) + 8).toNat = k + 8 := by omega
                  go_wp2_with fail
                  go_still_tail 18, (by kernel_rfl)
                  change wpList _ _ _ _ _ (World.drew _)
                  go_wp2_with fail
                  go_roundw
                  case rel => exact ⟨k + 1, by go_num, by omega, Lib.hid (end_next HG.out hw hlt HX.out HY.out HZ.out).drew, Lib.hid (HV.out.set_far (Or.inl hgv) _).drew, Lib.hid (HKP.out.setCell (fun _ => rfl) _).drew⟩
                  case measure => simp [intOf]; omega
                · have hke : k = 8 := by omega
                  rw [hke] at HG
                  clear hke
                  go_wp2_with fail
                  go_end0
                  have h8 := HG.out
                  rw [endK_all hw.1, HVS.out, HV0.out, HMS.out] at h8
                  exact ⟨rfl, h8, HKP.out⟩
end Go.Proofs.Ytnpngkbcfkolnaa
