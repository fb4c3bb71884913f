/- The program's hash, fed: walked. -/
import Derived.Test.YtnpngkbcfkolnaaDigE
namespace Go.Proofs.Ytnpngkbcfkolnaa
open Go.ChangeShapes Go.WideShapes Go.ChangeAt Go.RowKit Go.Joins
set_option linter.unusedVariables false
set_option linter.unusedSimpArgs false
attribute [local go_sem ↓] Go.wp_at_zero Go.wp_at_succ

theorem below_drew0 {w w' : World} (h : Below w.drew.heap.size w.drew w') : Below w.heap.size w w' :=
  (show Below w.heap.size w w.drew from ⟨rfl, rfl, rfl, Nat.le_refl _, fun _ _ => rfl⟩).trans h
theorem below_drewN0 {w w' : World} {n : Nat} (h : Below (w.drewN n).heap.size (w.drewN n) w') : Below w.heap.size w w' :=
  (show Below w.heap.size w (w.drewN n) from ⟨rfl, rfl, rfl, Nat.le_refl _, fun _ _ => rfl⟩).trans h
theorem nb_next {n m : Nat} (h : n ≤ m) : 64 * nb n ≤ m ∧ (nb n = 0 ∨ 64 * nb n < m) := by unfold nb; omega
theorem nb_end {n k : Nat} (h1 : n ≤ 64 * k + 64) (h2 : k = 0 ∨ 64 * k < n) : k = nb n := by unfold nb; omega
theorem nb_le (n : Nat) : 64 * nb n ≤ n := by unfold nb; omega
theorem extract_app_left (a b : ByteArray) (i j : Nat) (h : j ≤ a.size) : (a ++ b).extract i j = a.extract i j := by
  rw [ByteArray.extract_append, show j - a.size = 0 by omega]
  have : b.extract (i - a.size) 0 = ByteArray.empty := by rw [ByteArray.extract_eq_empty_iff]; omega
  rw [this, ByteArray.append_empty]
theorem extract_app_over (a b : ByteArray) (i : Nat) (h : i ≤ a.size) : (a ++ b).extract i (a ++ b).size = a.extract i a.size ++ b := by
  rw [ByteArray.extract_append, ByteArray.size_append, show i - a.size = 0 by omega, show a.size + b.size - a.size = b.size by omega, ByteArray.extract_zero_size]
  congr 1
  apply ByteArray.ext
  simp only [ByteArray.data_extract]
  have e : a.data.size = a.size := rfl
  apply Array.ext
  · simp only [Array.size_extract]; omega
  · intro j h1 h2
    simp
theorem midQ_zero (T : ByteArray) : midQ T 0 = initQ := by unfold midQ; rfl
theorem midQ_app (a b : ByteArray) (k : Nat) (h : 64 * k ≤ a.size) : midQ (a ++ b) k = midQ a k := by
  induction k with
  | zero => rw [midQ_zero, midQ_zero]
  | succ k ih => rw [midQ_succ, midQ_succ, ih (by omega), extract_app_left _ _ _ _ (by omega)]
theorem set_eight {W : World} {g : Nat} {h0 h1 h2 h3 h4 h5 h6 h7 z0 z1 z2 z3 z4 z5 z6 z7 : Int} {R : ByteArray} {L : Nat} (h : CellsAt W g 0 (hashC [h0, h1, h2, h3, h4, h5, h6, h7] R L)) : CellsAt ((((((((W.setCell ⟨g, 0, none⟩ (.int .u32 z0)).setCell ⟨g, 1, none⟩ (.int .u32 z1)).setCell ⟨g, 2, none⟩ (.int .u32 z2)).setCell ⟨g, 3, none⟩ (.int .u32 z3)).setCell ⟨g, 4, none⟩ (.int .u32 z4)).setCell ⟨g, 5, none⟩ (.int .u32 z5)).setCell ⟨g, 6, none⟩ (.int .u32 z6)).setCell ⟨g, 7, none⟩ (.int .u32 z7)) g 0 (hashC [z0, z1, z2, z3, z4, z5, z6, z7] R L) ∧ Kept (· = g) W ((((((((W.setCell ⟨g, 0, none⟩ (.int .u32 z0)).setCell ⟨g, 1, none⟩ (.int .u32 z1)).setCell ⟨g, 2, none⟩ (.int .u32 z2)).setCell ⟨g, 3, none⟩ (.int .u32 z3)).setCell ⟨g, 4, none⟩ (.int .u32 z4)).setCell ⟨g, 5, none⟩ (.int .u32 z5)).setCell ⟨g, 6, none⟩ (.int .u32 z6)).setCell ⟨g, 7, none⟩ (.int .u32 z7)) := by
  have e : ∀ {W : World} {cs : List Value} (i : Nat) (x : Int), CellsAt W g 0 cs → i < cs.length → CellsAt (W.setCell ⟨g, i, none⟩ (.int .u32 x)) g 0 (cs.set i (.int .u32 x)) := fun {W cs} i x h hi => by
    have := h.set hi (.int .u32 x); rwa [Nat.zero_add] at this
  exact ⟨e 7 z7 (e 6 z6 (e 5 z5 (e 4 z4 (e 3 z3 (e 2 z2 (e 1 z1 (e 0 z0 h (by simp [hashC, u32s])) (by simp [hashC, u32s])) (by simp [hashC, u32s])) (by simp [hashC, u32s])) (by simp [hashC, u32s])) (by simp [hashC, u32s])) (by simp [hashC, u32s])) (by simp [hashC, u32s]),
    (Kept.setCell (Kept.setCell (Kept.setCell (Kept.setCell (Kept.setCell (Kept.setCell (Kept.setCell (Kept.setCell (Kept.refl (fun x => x = g) W) (d := ⟨g, 0, none⟩) (fun _ => rfl) _) (d := ⟨g, 1, none⟩) (fun _ => rfl) _) (d := ⟨g, 2, none⟩) (fun _ => rfl) _) (d := ⟨g, 3, none⟩) (fun _ => rfl) _) (d := ⟨g, 4, none⟩) (fun _ => rfl) _) (d := ⟨g, 5, none⟩) (fun _ => rfl) _) (d := ⟨g, 6, none⟩) (fun _ => rfl) _) (d := ⟨g, 7, none⟩) (fun _ => rfl) _)⟩
theorem set_nine {W : World} {g : Nat} {h0 h1 h2 h3 h4 h5 h6 h7 : Int} {R : ByteArray} {L L' : Nat} (h : CellsAt W g 0 (hashC [h0, h1, h2, h3, h4, h5, h6, h7] R L)) : CellsAt (W.setCell ⟨g, 9, none⟩ (.int .i64 (L' : Int))) g 0 (hashC [h0, h1, h2, h3, h4, h5, h6, h7] R L') := by
  have := h.set (k := 9) (by simp [hashC, u32s]) (.int .i64 (L' : Int)); rw [Nat.zero_add] at this; exact this
theorem set_rest {W : World} {g : Nat} {h0 h1 h2 h3 h4 h5 h6 h7 : Int} {R R' : ByteArray} {L : Nat} (h : CellsAt W g 0 (hashC [h0, h1, h2, h3, h4, h5, h6, h7] R L)) : CellsAt (W.setCell ⟨g, 8, none⟩ (.string R')) g 0 (hashC [h0, h1, h2, h3, h4, h5, h6, h7] R' L) := by
  have := h.set (k := 8) (by simp [hashC, u32s]) (.string R'); rw [Nat.zero_add] at this; exact this

set_option maxRecDepth 100000 in
set_option maxHeartbeats 4000000 in
theorem write_any (g : Nat) (T s : ByteArray) (w : World) (h : HashOf w g T) (hb : T.size + s.size ≤ 1000000) :
    Calls Try.prog 15 #[.pointer (some ⟨g, 0, none⟩), .string s] w fun e w' => e = .returned (.tuple #[]) ∧ HashOf w' g (T ++ s) ∧ Kept (· = g) w w' := by
  obtain ⟨T', hT'⟩ : ∃ T', T' = T ++ s := ⟨_, rfl⟩
  have hTs : T'.size = T.size + s.size := by rw [hT', ByteArray.size_append]
  obtain ⟨m, hm⟩ : ∃ m, m = nb T.size := ⟨_, rfl⟩
  have hm1 : 64 * m ≤ T.size := by rw [hm]; exact nb_le _
  have hm2 : m = 0 ∨ 64 * m < T'.size := by rw [hm]; exact (nb_next (by omega)).2
  have hmid : midQ T' m = midQ T m := by rw [hT']; exact midQ_app _ _ _ hm1
  have hrs : T.extract (64 * m) T.size ++ s = T'.extract (64 * m) T'.size := by rw [hT']; exact (extract_app_over _ _ _ hm1).symm
  rw [HashOf, ← hm, ← hmid] at h
  have hRsz : (T.extract (64 * m) T.size).size = T.size - 64 * m := by rw [ByteArray.size_extract]; omega
  obtain ⟨R, hR⟩ : ∃ R, R = T.extract (64 * m) T.size := ⟨_, rfl⟩
  rw [← hR] at h hrs hRsz
  obtain ⟨h0, h1, h2, h3, h4, h5, h6, h7, hh⟩ := list8 (midQ_words T' m).1
  rw [hh] at h
  have e1 : IntKind.i64.wrap ((T.size : Int) - (R.size : Int)) = ((64 * m : Nat) : Int) := by rw [IntWalk.i64_in _ (by omega)]; omega
  obtain ⟨c0, c1, c2, c3, c4, c5, c6, c7, c8, c9, f0, f1, f2, f3, f4, f5, f6, f7, f8, f9⟩ := hash_cells h
  rw [← hT']
  have HH := Lib.hid h
  have HHH := Lib.hid hh
  have HRS := Lib.hid hrs
  have hT1 : T'.size ≤ 1000000 := by omega
  have hT2 : T.size ≤ T'.size := by omega
  have HTS := Lib.hid hTs
  have HMM := Lib.hid hm
  have hR1 : R.size ≤ 1000000 := by omega
  have hsum : (R ++ s).size ≤ 1000000 := by rw [hrs, ByteArray.size_extract]; omega
  clear hT' hmid hR hh hrs h hTs hm hRsz
  go_enter Try.func15, Try.ntmps15
  go_wp2_with fail
  go_still_tail 12, (by kernel_rfl)
  change wpList _ _ _ _ _ (World.drew _)
  go_wp2_with fail
  have HC0 : Hid (∃ R0, CellsAt (w.setCell ⟨g, 9, none⟩ (.int .i64 ((64 * m : Nat) : Int))).drew g 0 (hashC (midQ T' m) R0 (64 * m))) := ⟨R, by rw [HHH.out]; exact (set_nine HH.out).drew⟩
  have HK0 : Hid (Kept (· = g) w (w.setCell ⟨g, 9, none⟩ (.int .i64 ((64 * m : Nat) : Int))).drew) := ((Kept.refl (fun x => x = g) w).setCell (d := ⟨g, 9, none⟩) (fun _ => rfl) _).drew
  clear c0 c1 c2 c3 c4 c5 c6 c7 c8 c9 f0 f1 f2 f3 f4 f5 f6 f7 f8 f9 HH HHH e1
  go_loopw [1] (fun x wr => ∃ (k : Nat) (sx : ByteArray), x = .string sx ∧ 64 * k ≤ T'.size ∧ (k = 0 ∨ 64 * k < T'.size) ∧ Hid (sx = T'.extract (64 * k) T'.size) ∧ Hid (∃ R0, CellsAt wr g 0 (hashC (midQ T' k) R0 (64 * k))) ∧ Hid (Kept (· = g) w wr)) (fun x _ => match x with | .string s => s.size | _ => 0)
  case atStart => exact ⟨m, _, rfl, by omega, hm2, HRS.out, HC0, HK0⟩
  case round =>
    clear HC0 HK0
    obtain ⟨k, sx, rfl, hk, hk2, HSX, HC, HK⟩ := hrel
    have hsx : sx.size ≤ T'.size - 64 * k := by rw [HSX.out, ByteArray.size_extract]; omega
    have hsx2 : T'.size - 64 * k ≤ sx.size := by rw [HSX.out, ByteArray.size_extract]; omega
    obtain ⟨R0, hc⟩ := HC.out
    obtain ⟨h0, h1, h2, h3, h4, h5, h6, h7, hh⟩ := list8 (midQ_words T' k).1
    have hww : Words 8 [h0, h1, h2, h3, h4, h5, h6, h7] := by rw [← hh]; exact midQ_words T' k
    rw [hh] at hc
    obtain ⟨c0, c1, c2, c3, c4, c5, c6, c7, c8, c9, f0, f1, f2, f3, f4, f5, f6, f7, f8, f9⟩ := hash_cells hc
    obtain ⟨L, hL⟩ : ∃ L, L = 64 * k := ⟨_, rfl⟩
    rw [← hL] at hc c9
    have hlL : L ≤ 1000000 := by omega
    have HCC := Lib.hid hc
    have HHH := Lib.hid hh
    have HLK := Lib.hid hL
    clear hh hc hL HC
    by_cases hlt : 64 < sx.size
    · have hd : decide (64 < (sx.size : Int)) = true := by simp; omega
      go_wp2_with fail
      have HC1 := Lib.hid (set_nine (L' := L + 64) HCC.out)
      have HK1 := Lib.hid (HK.out.setCell (d := ⟨g, 9, none⟩) (fun _ => rfl) (.int .i64 ((L + 64 : Nat) : Int)))
      clear c0 c1 c2 c3 c4 c5 c6 c7 c8 c9 f0 f1 f2 f3 f4 f5 f6 f7 f8 f9 HCC HK
      have ecast : ((L : Int) + 64) = ((L + 64 : Nat) : Int) := by omega
      rw [ecast]
      clear ecast
      generalize wr.setCell ⟨g, 9, none⟩ (.int .i64 ((L + 64 : Nat) : Int)) = W1 at *
      obtain ⟨c0, c1, c2, c3, c4, c5, c6, c7, c8, c9, f0, f1, f2, f3, f4, f5, f6, f7, f8, f9⟩ := hash_cells HC1.out
      obtain ⟨L2, hL2⟩ : ∃ L2, L2 = L + 64 := ⟨_, rfl⟩
      rw [← hL2] at c9 HC1
      have hlL2 : L2 ≤ 1000064 := by omega
      have HL2 := Lib.hid hL2
      clear hL2
      go_region_with (first | (go_at_call 29; refine (turned_lit h0 h1 h2 h3 h4 h5 h6 h7 _ L2 false _ hww (by rw [ByteArray.size_extract]; omega) (by omega)).mono ?_; rintro e V ⟨Z, hZ, z0, z1, z2, z3, z4, z5, z6, z7, hzz, rfl, hbv⟩; have hcv := HC1.out.below (by first | exact below_drew0 hbv | exact below_drewN0 hbv | exact hbv); have HBV := Lib.hid (show Below W1.heap.size W1 V by first | exact below_drew0 hbv | exact below_drewN0 hbv | exact hbv); have HHC := Lib.hid hcv; have HZ := Lib.hid hZ; have HZZ := Lib.hid hzz; clear c0 c1 c2 c3 c4 c5 c6 c7 c8 c9 f0 f1 f2 f3 f4 f5 f6 f7 f8 f9 hZ hzz hbv; obtain ⟨c0, c1, c2, c3, c4, c5, c6, c7, c8, c9, f0, f1, f2, f3, f4, f5, f6, f7, f8, f9⟩ := hash_cells hcv; clear hcv))
      all_goals
        go_wp2_with fail
        go_roundw
        case rel =>
          obtain ⟨q1, q2⟩ := set_eight (z0 := z0) (z1 := z1) (z2 := z2) (z3 := z3) (z4 := z4) (z5 := z5) (z6 := z6) (z7 := z7) HHC.out
          have el : L2 = 64 * (k + 1) := by rw [HL2.out, HLK.out]; omega
          have el2 : L2 = 64 * k + 64 := by rw [HL2.out, HLK.out]
          have es : sx.extract 0 64 = T'.extract (64 * k) (64 * k + 64) := by rw [HSX.out, ByteArray.extract_extract]; congr 1; omega
          have em : midQ T' (k + 1) = [z0, z1, z2, z3, z4, z5, z6, z7] := by rw [midQ_succ, HHH.out, ← es, ← HZZ.out, ← HZ.out, el2]
          refine ⟨k + 1, _, rfl, by omega, Or.inr (by omega), ?_, ?_, Lib.hid ((HK1.out.trans (Kept.of_below HBV.out)).trans q2)⟩
          · rw [Hid, HSX.out, ByteArray.extract_extract, ByteArray.size_extract]; congr 1; omega
          · exact ⟨R0, by rw [em, ← el]; exact q1⟩
        case measure => simp; omega
    · have hd : decide (64 < (sx.size : Int)) = false := by simp; omega
      have hkn := nb_end (n := T'.size) (k := k) (by omega) hk2
      have HN := Lib.hid hkn
      clear hkn c0 c1 c2 c3 c4 c5 c6 c7 c8 c9 f0 f1 f2 f3 f4 f5 f6 f7 f8 f9
      go_wp2_with (first | (go_at_call 30; refine (clone_any _ _ (by omega)).mono ?_; rintro e V ⟨rfl, hbv⟩; have hcv := HCC.out.below hbv; have HBV := Lib.hid hbv; have HHC := Lib.hid hcv; clear hbv; obtain ⟨c0, c1, c2, c3, c4, c5, c6, c7, c8, c9, f0, f1, f2, f3, f4, f5, f6, f7, f8, f9⟩ := hash_cells hcv; clear hcv))
      have HC2 := Lib.hid (set_rest (R' := sx) HHC.out)
      have HK2 := Lib.hid ((HK.out.trans (Kept.of_below HBV.out)).setCell (d := ⟨g, 8, none⟩) (fun _ => rfl) (.string sx))
      clear c0 c1 c2 c3 c4 c5 c6 c7 c8 c9 f0 f1 f2 f3 f4 f5 f6 f7 f8 f9 HHC HBV HK HCC
      generalize V.setCell ⟨g, 8, none⟩ (.string sx) = W2 at *
      go_end0
      have el : ((L : Int) + (sx.size : Int)) = ((T'.size : Nat) : Int) := by rw [HLK.out]; omega
      refine ⟨rfl, ?_, ?_⟩
      · rw [HashOf, ← HN.out, ← HSX.out, HHH.out]
        rw [el]; exact set_nine HC2.out
      · exact HK2.out.setCell (d := ⟨g, 9, none⟩) (fun _ => rfl) _
end Go.Proofs.Ytnpngkbcfkolnaa
