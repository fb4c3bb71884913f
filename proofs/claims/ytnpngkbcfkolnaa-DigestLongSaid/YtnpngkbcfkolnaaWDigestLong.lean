/- DigestLong, walked. -/
import Derived.Test.YtnpngkbcfkolnaaDigH
import Derived.BigQuiet
import Derived.Deep.RegionHeld3
import Derived.Deep.DeepCutAuto
import Derived.Deep.CutRange
import Derived.StillTailTactics
namespace Go.Proofs.Ytnpngkbcfkolnaa
open Go.ChangeShapes Go.WideShapes Go.ChangeAt Go.RowKit Go.Joins
set_option linter.unusedVariables false
set_option linter.unusedSimpArgs false
attribute [local go_sem ↓] Go.wp_at_zero Go.wp_at_succ

theorem below_celllt' {W W' : World} {b j : Nat} {v : Value} (hc : W.cell? ⟨b, j, none⟩ = some v) (h : Below W.heap.size W W') : W'.cell? ⟨b, j, none⟩ = some v := by
  rw [h.cell (p := ⟨b, j, none⟩) (cell_block hc)]; exact hc

theorem keep2 {w w' : World} (h : Below w.drew.heap.size w.drew w') : Below w.heap.size w w' :=
  (show Below w.heap.size w w.drew from ⟨rfl, rfl, rfl, Nat.le_refl _, fun _ _ => rfl⟩).trans h
theorem keep0 (w : World) : Below w.heap.size w w.drew := ⟨rfl, rfl, rfl, Nat.le_refl _, fun _ _ => rfl⟩
theorem keep3 {w w' w2 : World} (h : Below w.drew.heap.size w.drew w') (k : Below w'.heap.size w' w2) : Below w.heap.size w w2 := (keep2 h).trans (k.mono (keep2 h).size)
theorem keep4 {W w a b : World} (h : Below W.heap.size W w) (h1 : Below w.drew.heap.size w.drew a) (h2 : Below a.heap.size a b) : Below W.heap.size W b := h.trans ((keep3 h1 h2).mono h.size)
theorem BytesBlk.next_int {w : World} {B k : Nat} {ns : List Nat} (h : BytesBlk w B ns) {y : Int} (h0 : 0 ≤ y) (h1 : y < 256) : BytesBlk (w.setCell ⟨B, k, none⟩ (.int .u8 y)) B (ns.set k y.toNat) := by
  have e : y = ((y.toNat : Nat) : Int) := by omega
  have := h.next (k := k) (v := y.toNat) (by omega)
  rwa [← e] at this
theorem BytesBlk.below {w w' : World} {B : Nat} {ns : List Nat} (h : BytesBlk w B ns) (hB : B < w.heap.size) (hb : Below w.heap.size w w') : BytesBlk w' B ns := by
  intro i hi
  obtain ⟨h1, h2, h3⟩ := h i hi
  exact ⟨h1, by rw [hb.cell (p := ⟨B, i, none⟩) hB]; exact h2, by rw [hb.frozen (p := ⟨B, i, none⟩) hB]; exact h3⟩
theorem mod256_bd (z : Int) : 0 ≤ z % 256 ∧ z % 256 < 256 := by omega
theorem strOf8_append (a b : List Nat) : strOf8 (a ++ b) = strOf8 a ++ strOf8 b := by
  simp [strOf8, ByteArray.ext_iff]
theorem take_set_succ (l : List Nat) (k x : Nat) (h : k < l.length) : (l.set k x).take (k + 1) = l.take k ++ [x] := by
  rw [List.take_succ_eq_append_getElem (by rw [List.length_set]; exact h), List.take_set_of_le (Nat.le_refl _)]; simp
theorem keepZ (w : World) : Below w.heap.size w w.drew := keep0 w
theorem within_nat (i n : Int) (h0 : 0 < n) (h1 : n ≤ 9223372036854775807) : ∃ a : Nat, withinI i n = (a : Int) ∧ (a : Int) < n := ⟨(withinI i n).toNat, by have := within_bd i n h0 h1; omega, by have := within_bd i n h0 h1; omega⟩
theorem xor8_bd (x y : Int) : 0 ≤ bits .xor .u8 x y ∧ bits .xor .u8 x y < 256 := by
  show 0 ≤ IntKind.u8.wrap _ ∧ IntKind.u8.wrap _ < 256
  rw [IntKind.wrap_u8]; omega

set_option maxRecDepth 100000 in
set_option maxHeartbeats 4000000 in
theorem digestLong_walk (w : World) (vS : Value) (ss : List ByteArray) (hS : TextsIn w vS ss) :
    Calls Try.prog 6 #[.agg #[vS]] w fun e w' => e = .returned (.bool true) ∧ Below w.heap.size w w' := by
  have hF := box1_facts w vS 24
  have HT := Lib.hid (hS.below hF.1)
  obtain ⟨p, cap, rfl, h16, hs, hSl⟩ := hS
  have HSl := Lib.hid (hSl.below hF.1)
  have HBs := Lib.hid hs
  clear hSl hs
  go_enter Try.func6, Try.ntmps6
  go_wp2_with fail
  generalize w.alloc (Obj.cells #[Value.slice p ss.length cap] 24) = W at *
  obtain ⟨hbel, hc0, hsz⟩ := hF
  have HC0 := Lib.hid hc0
  have HSZ := Lib.hid hsz
  clear hc0 hsz
  refine (heavy6_any _ ss _ HT.out).mono ?_
  rintro e w1 ⟨heavy, hheavy, rfl, hb1⟩
  cases heavy with
  | true =>
    clear hheavy
    go_wp2_with fail
    go_ret
    exact ⟨rfl, hbel.trans (hb1.mono hbel.size)⟩
  | false =>
    have ht := hheavy rfl
    clear hheavy
    have hlW : w.heap.size < W.heap.size := by rw [HSZ.out]; omega
    have hc0 := below_box HC0 HSZ hb1
    have HT1 := Lib.hid (HT.out.below hb1)
    go_wp2_with fail
    refine (texts_any _ ss _ HT1.out).mono ?_
    rintro e w' ⟨r0, hr0, hr1, rfl, rfl⟩
    clear hr0 HT1
    obtain ⟨a, ha, ha9⟩ := within_nat (wrap64 ((r0 : Int) * 41)) 900 (by decide) (by decide)
    go_wp2_with fail
    refine (within_any _ _ _ (by omega) (by omega)).mono ?_
    rintro e w' ⟨rfl, rfl⟩
    rw [ha]
    clear ha
    have ha2 : a < 900 := by omega
    have HC1 := Lib.hid hb1
    have hgs := hb1.size
    obtain ⟨n, hn⟩ : ∃ n, n = 200 + a := ⟨_, rfl⟩
    have hn1 : n ≤ 1100 := by omega
    have en : IntKind.i64.wrap (200 + (a : Int)) = (n : Int) := by rw [IntWalk.i64_in _ (by omega)]; omega
    have en2 : 200 + (a : Int) = (n : Int) := by omega
    clear hn
    have hmk := hmk8 (n := n) (by omega)
    obtain ⟨C, hC⟩ : ∃ C, C = cellsOf8 (List.replicate n 0) := ⟨_, rfl⟩
    rw [← hC] at hmk
    have HCC := Lib.hid hC
    clear hC hb1
    go_wp2_with fail
    have HD0 : Hid (BytesBlk (w1.alloc (.cells C 5)) w1.heap.size (List.replicate n 0)) := by rw [HCC.out]; exact bytesBlk_new w1 (ns := List.replicate n 0) rfl _ (by simp)
    have HB0 := Lib.hid (HC1.out.alloc hgs (.cells C 5))
    have hlt9 : w1.heap.size < (w1.alloc (.cells C 5)).heap.size := by simp
    clear hmk hc0 en en2
    generalize w1.alloc (.cells C 5) = W4 at *
    generalize w1.heap.size = Bb at *
    refine (new_any _).mono ?_
    rintro e W5 ⟨g, rfl, hg, hh, hb5⟩
    have HD5 := Lib.hid (HD0.out.below hlt9 hb5)
    have HB5 := Lib.hid (HB0.out.trans (hb5.mono HB0.out.size))
    have HH5 := Lib.hid hh
    have hl5 : Bb < W5.heap.size := Nat.lt_of_lt_of_le hlt9 hb5.size
    have hgb : Bb < g := Nat.lt_of_lt_of_le hlt9 hg
    clear hh hb5 HD0 HB0 hlt9 HC1
    go_wp2_with fail
    go_loopw [6] (fun i wr => ∃ (k : Nat) (ns : List Nat), i = .int .i64 k ∧ k ≤ n ∧ ns.length = n ∧ Bb < wr.heap.size ∧ Hid (BytesBlk wr Bb ns) ∧ Hid (HashOf wr g (strOf8 (ns.take k))) ∧ Hid (Below W.heap.size W wr)) (fun i _ => n - (intOf i).toNat)
    case atStart => exact ⟨0, _, rfl, by omega, by simp, hl5, HD5, HH5, HB5⟩
    case round =>
      clear HD5 HH5 HB5 hl5
      obtain ⟨k, ns, rfl, hk, hns, hBl, HD, HH, HB⟩ := hrel
      have HNS := Lib.hid hns
      by_cases hkn : k < n
      · obtain ⟨c1, c2, c3⟩ := HD.out k (by omega)
        generalize ns.getD k 0 = old at c1 c2
        clear hns
        have i0 : (0 : Int) ≤ (k : Int) := by omega
        have i1 : (k : Int) < (n : Int) := by omega
        have i2 : (k : Int) + 1 ≤ (n : Int) := by omega
        go_upto_region 11 with (fail)
        go_cut [] from 20 to 41 (fun wx => ∃ y : Int, 0 ≤ y ∧ y < 256 ∧ wx = wr.setCell ⟨Bb, k, none⟩ (.int .u8 y))
        case first =>
          go_wp2_with fail
          go_meet
          exact ⟨_, (mod256_bd _).1, (mod256_bd _).2, rfl⟩
        case rest =>
        obtain ⟨y, hy0, hy1, rfl⟩ := hcut
        have HD6 := Lib.hid (HD.out.next_int (k := k) hy0 hy1)
        have HB6 := Lib.hid (HB.out.setCell (p := ⟨Bb, k, none⟩) hgs (.int .u8 y))
        have HH6 : Hid (HashOf (wr.setCell ⟨Bb, k, none⟩ (.int .u8 y)) g (strOf8 (ns.take k))) := CellsAt.set_far HH.out (Or.inl (show Bb ≠ g by omega)) _
        have hBl6 : Bb < (wr.setCell ⟨Bb, k, none⟩ (.int .u8 y)).heap.size := by rw [World.size_setCell]; exact hBl
        clear c1 c2 c3 HD HB HH hBl
        generalize wr.setCell ⟨Bb, k, none⟩ (.int .u8 y) = W6 at *
        have hcv : ∀ cap, (convert 26 9 (.slice (some ⟨Bb, k, none⟩) 1 cap)).run Try.prog W6 = .ok (.string (strOf8 [y.toNat])) W6 := fun cap => by
          have h1 := (HD6.out k (by rw [List.length_set, HNS.out]; exact hkn)).2.1
          have hg : (ns.set k y.toNat).getD k 0 = y.toNat := by simp [List.getD, HNS.out, hkn]
          rw [hg] at h1
          exact convert_bytes (P := Try.prog) (w := W6) (b := Bb) (off := k) (cap := cap) (ns := [y.toNat]) Try.underlying26 Try.underlying5 Try.underlying9 (fun i hi => by
            obtain rfl : i = 0 := by simp at hi; exact hi
            exact h1)
        have ht1 : (strOf8 (ns.take k)).size ≤ 1100 := by rw [strOf8_size, List.length_take]; omega
        have hs1 : (strOf8 [y.toNat]).size ≤ 1 := by rw [strOf8_size]; simp
        have happ : strOf8 (ns.take k) ++ strOf8 [y.toNat] = strOf8 ((ns.set k y.toNat).take (k + 1)) := by
          rw [← strOf8_append, take_set_succ _ _ _ (by rw [HNS.out]; exact hkn)]
        have HA := Lib.hid happ
        clear happ
        go_wp2_with fail
        refine (write_any g (strOf8 (ns.take k)) (strOf8 [y.toNat]) _ HH6.out (by omega)).mono ?_
        rintro e W7 ⟨rfl, hh, hkp⟩
        rw [HA.out] at hh
        have HH7 := Lib.hid hh
        have HB7 := Lib.hid (HB6.out.trans (hkp.below HB6.out.size (fun j hj e => by subst e; omega)))
        have HD7 : Hid (BytesBlk W7 Bb (ns.set k y.toNat)) := fun i hi => by
          obtain ⟨a1, a2, a3⟩ := HD6.out i hi
          exact ⟨a1, by rw [hkp.cell (d := ⟨Bb, i, none⟩) hBl6 (show ¬ Bb = g by omega)]; exact a2, by rw [hkp.frozen (d := ⟨Bb, i, none⟩) hBl6 (show ¬ Bb = g by omega)]; exact a3⟩
        have hBl7 : Bb < W7.heap.size := Nat.lt_of_lt_of_le hBl6 hkp.size
        clear hh hkp hcv HD6 HB6 HH6 hBl6
        go_wp2_with fail
        go_roundw
        case rel => exact ⟨k + 1, _, by go_num, by omega, by rw [List.length_set]; exact HNS.out, hBl7, HD7, HH7, HB7⟩
        case measure => simp [intOf]; omega
      · have hke : k = n := by omega
        have hh2 := HH.out
        rw [List.take_of_length_le (by omega)] at hh2
        have hsz : (strOf8 ns).size = n := by rw [strOf8_size, hns]
        have hcv : ∀ W', Below wr.heap.size wr W' → ((convert 26 9 (.slice (some ⟨Bb, 0, none⟩) n n)).run Try.prog W' = .ok (.string (strOf8 ns)) W') := fun W' h => by
          have := convert_bytes (P := Try.prog) (w := W') (b := Bb) (off := 0) (cap := n) (ns := ns) Try.underlying26 Try.underlying5 Try.underlying9 (BytesBlk.cells (HD.out.below hBl h))
          rwa [hns] at this
        have hhk : ∀ W', Below wr.heap.size wr W' → HashOf W' g (strOf8 ns) := fun W' h => CellsAt.below hh2 h
        obtain ⟨wq, rfl⟩ : ∃ wq : World, wq = wr := ⟨_, rfl⟩
        generalize strOf8 ns = s at *
        have hs11 : s.size ≤ 1100 := by omega
        have HKK := Lib.hid hcv
        have HHK := Lib.hid hhk
        have HSZ2 := Lib.hid hsz
        clear hcv hns hhk hh2 hsz HH HD hke
        go_wp2_with fail
        go_region_held3 (fun W' => (convert 26 9 (.slice (some ⟨Bb, 0, none⟩) n n)).run Try.prog W' = .ok (.string s) W') (first | exact HKK.out _ hcum | exact HKK.out _ (keep0 _) | exact HKK.out _ (hcum.trans (keepZ _)))
          (first | (go_at_call 9; refine (of_any s _ (by omega)).mono ?_; rintro e w' ⟨rfl, hb⟩; have hcum : Below wq.heap.size wq w' := (by first | exact hcum.trans (hb.mono hcum.size) | exact keep2 hb)) | (go_at_call 10; refine (refDigest_any s _ (by omega)).mono ?_; rintro e w' ⟨rfl, hb⟩; have hcum : Below wq.heap.size wq w' := (by first | exact hcum.trans (hb.mono hcum.size) | exact keep2 hb)) | (go_at_call 17; refine (sum_any g s _ (HHK.out _ (by first | exact hcum | exact keep0 _)) (by omega)).mono ?_; rintro e w' ⟨rfl, hb⟩; have hcum : Below wq.heap.size wq w' := (by first | exact hcum.trans (hb.mono hcum.size) | exact keep2 hb)) | (go_at_call 16; refine (len_any g s _ (HHK.out _ (by first | exact hcum | exact keep0 _))).mono ?_; rintro e w' ⟨rfl, rfl⟩; rw [HSZ2.out]) | (go_at_call 11; refine (wakes6_any _).mono ?_; rintro e w' ⟨rfl, hb⟩; have hcum : Below wq.heap.size wq w' := (by first | exact hcum.trans (hb.mono hcum.size) | exact keep2 hb)))
        all_goals
          have hfin := hbel.trans ((HB.out.trans (hcum.mono HB.out.size)).mono hbel.size)
          go_wp2_with fail
          go_ret
          exact ⟨rfl, hfin⟩
end Go.Proofs.Ytnpngkbcfkolnaa
