/- siloref1.Apply, walked. -/
import Derived.Test.YtdagnmhioellhaaPkA12
import Derived.Test.YtdagnmhioellhaaPkA05
import Derived.Deep.Onto
import Derived.OrdersHeld
import Derived.Deep.RegionHeld3
import Derived.Test.YtdagnmhioellhaaPkA25
import Derived.Test.YtdagnmhioellhaaPkA21
import Derived.Test.YtdagnmhioellhaaPkA17
namespace Go.Proofs.Ytdagnmhioellhaa
open Go.ChangeShapes Go.WideShapes Go.ChangeAt Go.RowKit Go.Joins
set_option linter.unusedVariables false
set_option linter.unusedSimpArgs false

theorem below_of_drewQ {w w' : World} (h : Below w.drew.heap.size w.drew w') : Below w.heap.size w w' :=
  (show Below w.heap.size w w.drew from ⟨rfl, rfl, rfl, Nat.le_refl _, fun _ _ => rfl⟩).trans h

set_option maxRecDepth 100000 in
set_option maxHeartbeats 8000000 in
theorem refApply_any (ra ca n : Nat) (va vl : Value) (ms : List Nat) (l : List ByteArray) (w : World) (ha : BytesV w va ms) (hl : Strs6 w vl l) (hla : ms.length = ra * ca) (hll : l.length = ca) (hln : ∀ s ∈ l, s.size = n) (hn : n ≤ 8192)
    (h1 : 1 ≤ ra) (h2 : ra ≤ 16) (h3 : 1 ≤ ca) (h4 : ca ≤ 16) :
    Calls Try.prog 45 #[matV (ra : Int) (ca : Int) va, vl] w fun e w' => ∃ r, e = .returned r ∧ w'.ownsRow w.heap.size 9 1 r ra ((applyL ms l ra ca n).map Value.string) ∧ Below w.heap.size w w' := by
  obtain ⟨i0, hi, hz0, hz1, hz2⟩ := info_parts infoStr6
  obtain ⟨Aa, ka, rfl⟩ := ha.shape
  obtain ⟨Al, kl, rfl⟩ := hl.shape
  have tA := Three.new w (.int .i64 (ra : Int)) (.int .i64 (ca : Int)) (.slice Aa ms.length ka) 33
  have hbe := (Below.refl w.heap.size w).alloc (Nat.le_refl _) (.cells #[.int .i64 (ra : Int), .int .i64 (ca : Int), .slice Aa ms.length ka] 33)
  have HTA := Lib.hid tA
  have HBE := Lib.hid hbe
  have HA := Lib.hid ha
  have HL := Lib.hid hl
  have HLA := Lib.hid hla
  have HLL := Lib.hid hll
  have HLN := Lib.hid hln
  have hl0 : 0 < l.length := by omega
  have hl16 : l.length ≤ 16 := by omega
  have hmk := hmkM (n := n) (by omega)
  have hcv : ∀ W : World, (convert 31 9 (.slice (some ⟨W.heap.size, 0, none⟩) n n)).run Try.prog (W.alloc (.cells (cellsOf8 (List.replicate n 0)) 5)) = .ok (.string (zeroN n)) (W.alloc (.cells (cellsOf8 (List.replicate n 0)) 5)) := fun W => by
    have hB : BytesBlk (W.alloc (.cells (cellsOf8 (List.replicate n 0)) 5)) W.heap.size (List.replicate n 0) := bytesBlk_new W (ns := List.replicate n 0) rfl _ (by intro x hx; rw [List.eq_of_mem_replicate hx]; decide)
    have := convert_bytes (P := Try.prog) (b := W.heap.size) (off := 0) (cap := n) (ns := List.replicate n 0) Try.underlying31 Try.underlying5 Try.underlying9 (BytesBlk.cells hB)
    rw [List.length_replicate] at this
    exact this
  obtain ⟨C, hC⟩ : ∃ C, C = cellsOf8 (List.replicate n 0) := ⟨_, rfl⟩
  rw [← hC] at hmk hcv
  clear tA hbe ha hl hla hll hln hC
  unfold matV
  go_enter Try.func45, Try.ntmps45
  go_wp2_with fail
  generalize w.alloc (.cells #[.int .i64 (ra : Int), .int .i64 (ca : Int), .slice Aa ms.length ka] 33) = W0 at *
  go_loopw [5, 6] (fun r q wr => ∃ (i : Nat) (r0 : Value), r0 = r ∧ q = .int .i64 i ∧ i ≤ ra ∧ wr.ownsRow W0.heap.size 9 1 r i (((List.range i).map fun i => rowLane ms l ca n i ca).map Value.string) ∧ Hid (Below W0.heap.size W0 wr)) (fun _ q _ => ra - (intOf q).toNat)
  case atStart => exact ⟨0, _, rfl, rfl, by omega, World.ownsRow_nil _ _ _ _, Lib.hid (Below.refl _ _)⟩
  case round =>
    obtain ⟨i, r, rfl, rfl, hir, hown, HB⟩ := hrel
    obtain ⟨a0, a1, a2, a3, a4, a5⟩ := HTA.out.below HB.out
    clear a3 a4 a5
    have hbw := HBE.out.trans (HB.out.mono HBE.out.size)
    by_cases hlt : i < ra
    · obtain ⟨bl, ol, rfl, hbl, hcell⟩ := (HL.out.below hbw).at_ hl0
      rw [Nat.add_zero] at hcell
      obtain ⟨s0, hs0⟩ : ∃ s0, s0 = l[0]'hl0 := ⟨_, rfl⟩
      rw [← hs0] at hcell
      have hs0n : s0.size = n := by rw [hs0]; exact HLN.out _ (List.getElem_mem _)
      have i1 : (0 : Int) < (l.length : Int) := by omega
      clear hs0
      have hown0 := hown.alloc (.cells C 5)
      have hb0 := HB.out.alloc HB.out.size (.cells C 5)
      obtain ⟨z, hz⟩ : ∃ z, z = zeroN n := ⟨_, rfl⟩
      rw [← hz] at hcv
      have HZ : Hid (z = rowLane ms l ca n i 0) := hz
      clear hz
      go_wp2_with fail
      rw [HZ.out]
      clear hmk hcv hs0n hcell HZ a0 a1 a2
      generalize wr.alloc (.cells C 5) = V at *
      go_loopw [7, 8] (fun u qq wx => ∃ k : Nat, qq = .int .i64 k ∧ k ≤ ca ∧ u = .string (rowLane ms l ca n i k) ∧ wx.ownsRow W0.heap.size 9 1 r i (((List.range i).map fun i => rowLane ms l ca n i ca).map Value.string) ∧ Hid (Below W0.heap.size W0 wx)) (fun _ qq _ => ca - (intOf qq).toNat)
      case atStart => exact ⟨0, rfl, by omega, rfl, hown0, Lib.hid hb0⟩
      case round =>
        clear hown0 hb0 hown HB hbw
        obtain ⟨k, rfl, hk, rfl, hown, HB⟩ := hrel
        obtain ⟨a0, a1, a2, a3, a4, a5⟩ := HTA.out.below HB.out
        clear a3 a4 a5
        have hbw := HBE.out.trans (HB.out.mono HBE.out.size)
        by_cases hkc : k < ca
        · have hkl : k < l.length := by rw [HLL.out]; exact hkc
          have hia : i * ca + k < ms.length := by
            rw [HLA.out]
            have := Nat.mul_le_mul_right ca hlt
            rw [Nat.succ_mul] at this; omega
          obtain ⟨bl', ol', eA, _, hlc⟩ := (HL.out.below hbw).at_ hkl
          cases eA
          obtain ⟨ba, oa, rfl, _, hac⟩ := (HA.out.below hbw).at_ hia
          have hm256 := HA.out.lt (i * ca + k)
          have HNX := Lib.hid (rowLane_succ ms l ca n i k)
          have hsn : (l[k]'hkl).size = n := HLN.out _ (List.getElem_mem _)
          rw [← List.getElem_eq_getD (h := hkl)] at HNX
          generalize l[k]'hkl = sk at *
          have hrs := rowLane_size ms l ca n i k
          obtain ⟨cur, hcur⟩ : ∃ cur, cur = rowLane ms l ca n i k := ⟨_, rfl⟩
          rw [← hcur] at hrs HNX
          rw [← hcur]
          obtain ⟨x1, hx1⟩ : ∃ x1, x1 = i * ca := ⟨_, rfl⟩
          have p1 : (i : Int) * (ca : Int) = (x1 : Int) := by rw [hx1]; simp
          have hxs1 : x1 ≤ 16 * 16 := by rw [hx1]; exact Nat.mul_le_mul (by omega) h4
          rw [← hx1] at hac hia hm256 HNX
          generalize ms.getD (x1 + k) 0 = mm at *
          have hsc := scaledS_size sk mm
          have HMX := Lib.hid (mixS_scaled cur sk mm (by omega))
          have k0 : (0 : Int) ≤ (x1 : Int) + (k : Int) := by omega
          have k1 : (x1 : Int) + (k : Int) < (ms.length : Int) := by omega
          have k2 : (0 : Int) ≤ (k : Int) := by omega
          have k3 : (k : Int) < (l.length : Int) := by omega
          have e1 : ((x1 : Int) + (k : Int)).toNat = x1 + k := by omega
          have w2 : IntKind.i64.wrap ((x1 : Int) + (k : Int)) = (x1 : Int) + (k : Int) := IntWalk.i64_in _ (by omega)
          have w4 : IntKind.i64.wrap (x1 : Int) = (x1 : Int) := IntWalk.i64_in _ (by omega)
          clear hx1 hcur
          have HS : Hid (∀ W', Below wr.heap.size wr W' → W'.cell? ⟨w.heap.size, 0, none⟩ = some (.int .i64 (ra : Int)) ∧ W'.cell? ⟨w.heap.size, 1, none⟩ = some (.int .i64 (ca : Int)) ∧ W'.cell? ⟨w.heap.size, 2, none⟩ = some (.slice (some ⟨ba, oa, none⟩) ms.length ka) ∧ W'.cell? ⟨bl, ol + k, none⟩ = some (.string sk) ∧ W'.cell? ⟨ba, oa + (x1 + k), none⟩ = some (.int .u8 (mm : Int))) := fun W' h =>
            ⟨below_celllt a0 (cell_block a0) h, below_celllt a1 (cell_block a1) h, below_celllt a2 (cell_block a2) h, below_celllt hlc (cell_block hlc) h, below_celllt hac (cell_block hac) h⟩
          have HSCA : Hid (∀ W, Calls Try.prog 61 #[.string sk, .int .u8 (mm : Int)] W fun e w' => e = .returned (.string (scaledS sk mm)) ∧ Below W.heap.size W w') := fun W => refScaled_any sk mm W (by omega) hm256
          have HADD : Hid (∀ (W : World), Calls Try.prog 60 #[.string cur, .string (scaledS sk mm)] W fun e w' => e = .returned (.string (addedS cur (scaledS sk mm))) ∧ Below W.heap.size W w') := fun W => refAdded_any cur (scaledS sk mm) W (by omega) (by omega) (by omega)
          have HOWN := Lib.hid hown
          clear hsn hrs hsc hown hbw
          go_upto_region 9 with (fail)
          go_region_held3 (fun W' => W'.cell? ⟨w.heap.size, 0, none⟩ = some (.int .i64 (ra : Int)) ∧ W'.cell? ⟨w.heap.size, 1, none⟩ = some (.int .i64 (ca : Int)) ∧ W'.cell? ⟨w.heap.size, 2, none⟩ = some (.slice (some ⟨ba, oa, none⟩) ms.length ka) ∧ W'.cell? ⟨bl, ol + k, none⟩ = some (.string sk) ∧ W'.cell? ⟨ba, oa + (x1 + k), none⟩ = some (.int .u8 (mm : Int))) (first | exact HS.out _ hcum | exact HS.out _ (Below.drew hcum) | go_keep)
            (first | (go_at_call 61; refine (HSCA.out _).mono ?_; rintro e w1 ⟨rfl, hbx⟩; have hcum := (by first | exact cum2 (Below.drew (Below.refl wr.heap.size wr)) hbx | exact cum2d (Below.refl wr.heap.size wr) hbx | exact hbx)) | (go_at_call 60; refine (HADD.out _).mono ?_; rintro e w2 ⟨rfl, hby⟩; have hcum := (by first | exact cum2 hcum hby | exact cum2d hcum hby)))
          rw [HMX.out, ← HNX.out]
          clear a0 a1 a2 hlc hac
          have hown2 := own_below HOWN.out hcum
          have hB2 := HB.out.trans (hcum.mono HB.out.size)
          clear HS HOWN HB HSCA HADD
          go_wp2_with fail
          go_roundw
          case rel => exact ⟨k + 1, by go_num, by omega, rfl, hown2, Lib.hid hB2⟩
          case measure => simp [intOf]; omega
        · have hke : k = ca := by omega
          rw [hke]
          have hjd : decide ((ca : Int) < (ca : Int)) = false := by simp
          have HT : Hid (((List.range (i + 1)).map fun i => rowLane ms l ca n i ca).map Value.string = ((List.range i).map fun i => rowLane ms l ca n i ca).map Value.string ++ [.string (rowLane ms l ca n i ca)]) := by
            rw [Hid, List.range_succ, List.map_append, List.map_append]; rfl
          generalize rowLane ms l ca n i ca = cur at *
          clear hke
          have hW0 := HB.out.size
          have hwW := HBE.out.size
          go_wp2_with (first | (at_builtin; refine wpList_append_own _ rfl _ _ 23 rfl W0.heap.size 9 i0 (.string ByteArray.empty) 1 16 Try.underlying23 hi hz0 hz1 hz2 rfl (by decide) _ _ _ rfl (hown.alloc _) ⟨wr.heap.size, 0, none⟩ 1 1 [.string cur] rfl rfl ?c1 ?c2 ?c3 ?c4 ?c5 ?_) | go_in)
          case c1 => exact cell_one_new' _ _ _
          case c2 => intro u hu; simp at hu; subst hu; rfl
          case c3 => unfold maxLen; omega
          case c4 => omega
          case c5 => simp; omega
          all_goals
            intro v' w1 hown' hgrow _
            have hbx := append_below HB.out hown hgrow
            clear hown hgrow
            go_wp2_with fail
            go_roundw
            case rel => exact ⟨i + 1, _, rfl, by go_num, by omega, by rw [HT.out]; simpa only [List.map_map] using hown', Lib.hid hbx⟩
            case measure => simp [intOf]; omega
    · have hke : i = ra := by omega
      rw [hke] at hown
      clear hke
      go_wp2_with fail
      all_goals
        go_ret
        exact ⟨_, rfl, World.ownsRow.mono hown HBE.out.size, hbw⟩
end Go.Proofs.Ytdagnmhioellhaa

/- code.texts, code.Encode, code.Matrix, siloref4.Texts, siloref4.Encode, walked. -/

namespace Go.Proofs.Ytdagnmhioellhaa
open Go.ChangeShapes Go.WideShapes Go.ChangeAt Go.RowKit Go.Joins
set_option linter.unusedVariables false
set_option linter.unusedSimpArgs false

/-- A text that is not of this size. -/
def badS (z : Int) (s : ByteArray) : Bool := !decide ((s.size : Int) = z)
/-- So many texts of this size? -/
def fitB (L : List ByteArray) (many z : Int) : Bool := decide ((L.length : Int) = many) && !L.any (badS z)
theorem fitB_all {L : List ByteArray} {many z : Int} (h : fitB L many z = true) : (L.length : Int) = many ∧ ∀ s ∈ L, (s.size : Int) = z := by
  unfold fitB at h
  simp [badS] at h
  exact h
theorem fitB_of {L : List ByteArray} {many z : Int} (h1 : (L.length : Int) = many) (h2 : ∀ s ∈ L, (s.size : Int) = z) : fitB L many z = true := by
  unfold fitB
  simp [badS]
  exact ⟨h1, h2⟩

set_option maxRecDepth 100000 in
theorem textsBad_is (s : ByteArray) (z : Int) (B : Nat) (b : Bool) (hb : badS z s = b) (w : World) (h : w.cell? ⟨B, 2, none⟩ = some (.int .i64 z)) :
    Calls Try.prog 57 #[.string s, .pointer (some ⟨B, 0, none⟩)] w fun e w' => e = .returned (.bool b) ∧ w = w' := by
  unfold badS at hb
  by_cases h1 : (s.size : Int) = z
  · have hd : ((s.size : Int) == z) = true := by simp [h1]
    have HB : Hid (b = false) := by rw [Hid, ← hb]; simp [h1]
    clear hb h1
    go_enter Try.func57, Try.ntmps57
    go_wp2_with fail
    go_ret
    exact ⟨by rw [HB.out]; first | rfl | simp_all, rfl⟩
  · have hd : ((s.size : Int) == z) = false := by simp [h1]
    have HB : Hid (b = true) := by rw [Hid, ← hb]; simp [h1]
    clear hb h1
    go_enter Try.func57, Try.ntmps57
    go_wp2_with fail
    go_ret
    exact ⟨by rw [HB.out]; first | rfl | simp_all, rfl⟩

/-- Where the first such one is, or -1. -/
def SizeAt (z : Int) (L : List ByteArray) (w : World) (e : Ending) (w' : World) : Prop := ∃ p : Int, e = .returned (.int .i64 p) ∧ Hid (decide (0 ≤ p) = L.any (badS z)) ∧ w = w'

set_option maxRecDepth 100000 in
set_option maxHeartbeats 1000000 in
theorem indexSize_any (v : Value) (L : List ByteArray) (z : Int) (B : Nat) (w : World) (hN : Strs6 w v L) (hl : L.length ≤ 9000000000000000000) (h : w.cell? ⟨B, 2, none⟩ = some (.int .i64 z)) :
    Calls Try.prog 76 #[v, .func (.func 57) #[] #[.pointer (some ⟨B, 0, none⟩)]] w (SizeAt z L w) := by
  obtain ⟨A, cap, rfl⟩ := hN.shape
  have HS := Lib.hid hN
  clear hN
  go_enter Try.func76, Try.ntmps76
  go_wp2_with fail
  go_loop [8] (fun i => ∃ k : Nat, i = .int .i64 k ∧ k ≤ L.length ∧ Hid ((L.take k).any (badS z) = false)) (fun i => L.length - (intOf i).toNat)
  case atStart => exact ⟨0, rfl, by omega, by simp [Hid]⟩
  case round =>
    obtain ⟨k, rfl, hk, HK⟩ := hrel
    by_cases hlt : k < L.length
    · obtain ⟨b, off, rfl, hbl, hcell⟩ := HS.out.at_ hlt
      have i0 : (0 : Int) ≤ (k : Int) := by omega
      have i1 : (k : Int) < (L.length : Int) := by omega
      have HT : Hid ((L.take (k + 1)).any (badS z) = badS z (L[k]'hlt)) := by
        rw [Hid, List.take_succ_eq_append_getElem hlt, List.any_append, HK.out]
        simp
      have HM : Hid (L[k]'hlt ∈ L) := List.getElem_mem hlt
      generalize L[k]'hlt = s at *
      cases hb : badS z s
      · have HBX := Lib.hid hb
        clear hb
        go_wp2_with (first | (go_at_call 57; refine (textsBad_is s z B false HBX.out _ h).mono ?_; rintro e w' ⟨rfl, rfl⟩))
        go_round
        case rel => exact ⟨k + 1, by go_num, by omega, by rw [Hid, HT.out]; exact HBX.out⟩
        case measure => simp [intOf]; omega
      · have HBX := Lib.hid hb
        clear hb
        go_wp2_with (first | (go_at_call 57; refine (textsBad_is s z B true HBX.out _ h).mono ?_; rintro e w' ⟨rfl, rfl⟩))
        go_ret
        refine ⟨_, rfl, ?_, rfl⟩
        rw [Hid, decide_eq_true (by omega)]
        symm
        rw [List.any_eq_true]
        exact ⟨s, HM.out, HBX.out⟩
    · have hke : k = L.length := by omega
      have HT : Hid (L.any (badS z) = false) := by
        have := HK.out
        rw [hke, List.take_length] at this
        exact this
      clear hke
      go_wp2_with fail
      go_ret
      exact ⟨_, rfl, by rw [Hid, HT.out]; rfl, rfl⟩

set_option maxRecDepth 100000 in
theorem containsSize_is (v : Value) (L : List ByteArray) (z : Int) (B : Nat) (b : Bool) (hb : L.any (badS z) = b) (w : World) (hN : Strs6 w v L) (hl : L.length ≤ 9000000000000000000) (h : w.cell? ⟨B, 2, none⟩ = some (.int .i64 z)) :
    Calls Try.prog 56 #[v, .func (.func 57) #[] #[.pointer (some ⟨B, 0, none⟩)]] w fun e w' => e = .returned (.bool b) ∧ w = w' := by
  have HI := Lib.hid (indexSize_any v L z B w hN hl h)
  have HB := Lib.hid hb
  clear hN h hb
  go_enter Try.func56, Try.ntmps56
  go_wp2_with fail
  refine HI.out.mono ?_
  rintro e w' ⟨p, rfl, HP, rfl⟩
  go_wp2_with fail
  go_ret
  exact ⟨by show Ending.returned (.bool (decide (0 ≤ p))) = _; rw [HP.out, HB.out], rfl⟩

set_option maxRecDepth 100000 in
set_option maxHeartbeats 1000000 in
theorem texts4_any (k m z many : Int) (v : Value) (L : List ByteArray) (b : Bool) (hb : (mayB (k, m, z) && fitB L many z) = b) (w : World) (hN : Strs6 w v L) (hl : L.length ≤ 9000000000000000000) :
    Calls Try.prog 43 #[.agg #[.int .i64 k, .int .i64 m, .int .i64 z], v, .int .i64 many] w fun e w' => e = .returned (.bool b) ∧ Below w.heap.size w w' := by
  obtain ⟨A, cap, rfl⟩ := hN.shape
  obtain ⟨o, ho⟩ : ∃ o, o = (Obj.cells #[.int .i64 k, .int .i64 m, .int .i64 z] 29) := ⟨_, rfl⟩
  have tA := Three.new w (.int .i64 k) (.int .i64 m) (.int .i64 z) 29
  have hbe := (Below.refl w.heap.size w).alloc (Nat.le_refl _) (.cells #[.int .i64 k, .int .i64 m, .int .i64 z] 29)
  rw [← ho] at tA hbe
  have HB := Lib.hid hbe
  have HT := Lib.hid tA
  have HS := Lib.hid (hN.below hbe)
  obtain ⟨a0, a1, a2, _, _, _⟩ := tA
  rw [ho] at a0 a1 a2
  clear hbe hN
  obtain ⟨mb, hmb⟩ : ∃ mb, mb = mayB (k, m, z) := ⟨_, rfl⟩
  rw [← hmb] at hb
  have HMB := Lib.hid hmb.symm
  have HR := Lib.hid hb
  clear hmb hb
  go_enter Try.func43, Try.ntmps43
  go_wp2_with fail
  rw [← ho]
  refine (may_any k m z _).mono ?_
  rintro e w1 ⟨rfl, hb1⟩
  rw [HMB.out]
  have HB1 := Lib.hid (HB.out.trans (hb1.mono HB.out.size))
  have HS1 := Lib.hid (HS.out.below hb1)
  have HT1 := Lib.hid (HT.out.below hb1)
  clear hb1 a0 a1 a2 ho HB HS HT
  cases mb
  · have HF : Hid (b = false) := by rw [Hid, ← HR.out]; rfl
    go_wp2_with fail
    go_ret
    exact ⟨by rw [HF.out]; rfl, HB1.out⟩
  · by_cases h1 : (L.length : Int) = many
    · have hd : ((L.length : Int) == many) = true := by simp [h1]
      have HC := Lib.hid (fun W (h : w1 = W) => containsSize_is (.slice A L.length cap) L z w.heap.size (L.any (badS z)) rfl W (h ▸ HS1.out) hl (h ▸ HT1.out.c2))
      have HF : Hid (b = !L.any (badS z)) := by rw [Hid, ← HR.out, fitB, decide_eq_true h1]; rfl
      clear h1
      go_wp2_with (first | (go_at_call 56; refine (HC.out _ rfl).mono ?_; rintro e w' ⟨rfl, rfl⟩))
      go_ret
      exact ⟨by rw [HF.out]; rfl, HB1.out⟩
    · have hd : ((L.length : Int) == many) = false := by simp [h1]
      have HF : Hid (b = false) := by rw [Hid, ← HR.out, fitB, decide_eq_false h1]; rfl
      clear h1
      go_wp2_with fail
      go_ret
      exact ⟨by rw [HF.out]; rfl, HB1.out⟩

set_option maxRecDepth 100000 in
set_option maxHeartbeats 1000000 in
theorem refTexts_any (z many : Int) (v : Value) (L : List ByteArray) (b : Bool) (hb : fitB L many z = b) (w : World) (hN : Strs6 w v L) (hl : L.length ≤ 9000000000000000000) :
    Calls Try.prog 20 #[v, .int .i64 many, .int .i64 z] w fun e w' => e = .returned (.bool b) ∧ w = w' := by
  obtain ⟨A, cap, rfl⟩ := hN.shape
  have HS := Lib.hid hN
  have HR := Lib.hid hb
  clear hN hb
  go_enter Try.func20, Try.ntmps20
  go_wp2_with fail
  go_loop [7] (fun i => ∃ k : Nat, i = .int .i64 k ∧ k ≤ L.length ∧ Hid ((L.take k).any (badS z) = false)) (fun i => L.length - (intOf i).toNat)
  case atStart => exact ⟨0, rfl, by omega, by simp [Hid]⟩
  case round =>
    obtain ⟨k, rfl, hk, HK⟩ := hrel
    by_cases hlt : k < L.length
    · have hd1 : decide ((k : Int) < (L.length : Int)) = true := by simp; omega
      by_cases hm : (k : Int) ≤ many
      · have hd2 : decide ((k : Int) ≤ many) = true := decide_eq_true hm
        obtain ⟨b', off, rfl, hbl, hcell⟩ := HS.out.at_ hlt
        have i0 : (0 : Int) ≤ (k : Int) := by omega
        have i1 : (k : Int) < (L.length : Int) := by omega
        have HT : Hid ((L.take (k + 1)).any (badS z) = badS z (L[k]'hlt)) := by
          rw [Hid, List.take_succ_eq_append_getElem hlt, List.any_append, HK.out]
          simp
        have HM : Hid (L[k]'hlt ∈ L) := List.getElem_mem hlt
        generalize L[k]'hlt = s at *
        by_cases hz : (s.size : Int) = z
        · have hd3 : ((s.size : Int) == z) = true := by simp [hz]
          have HBX : Hid (badS z s = false) := by rw [Hid, badS]; simp [hz]
          clear hz
          go_wp2_with fail
          go_round
          case rel => exact ⟨k + 1, by go_num, by omega, by rw [Hid, HT.out]; exact HBX.out⟩
          case measure => simp [intOf]; omega
        · have hd3 : ((s.size : Int) == z) = false := by simp [hz]
          have HF : Hid (b = false) := by
            rw [Hid, ← HR.out, fitB]
            have h1 : L.any (badS z) = true := List.any_eq_true.2 ⟨s, HM.out, by rw [badS]; simp [hz]⟩
            rw [h1]
            simp
          clear hz
          go_wp2_with fail
          go_ret
          exact ⟨by rw [HF.out]; first | rfl | simp_all, rfl⟩
      · have hd2 : decide ((k : Int) ≤ many) = false := decide_eq_false hm
        have hne : ((L.length : Int) == many) = false := by simp; omega
        have HF : Hid (b = false) := by rw [Hid, ← HR.out, fitB, decide_eq_false (by omega)]; rfl
        go_wp2_with fail
        go_ret
        exact ⟨by rw [HF.out]; first | rfl | simp_all, rfl⟩
    · have hke : k = L.length := by omega
      have hd1 : decide ((k : Int) < (L.length : Int)) = false := by simp; omega
      have hall : L.any (badS z) = false := by
        have := HK.out
        rw [hke, List.take_length] at this
        exact this
      by_cases hq : (L.length : Int) = many
      · have hne : ((L.length : Int) == many) = true := by simp [hq]
        have HF : Hid (b = true) := by rw [Hid, ← HR.out, fitB, decide_eq_true hq, hall]; rfl
        clear hke hall hq
        go_wp2_with fail
        go_ret
        exact ⟨by rw [HF.out]; first | rfl | simp_all, rfl⟩
      · have hne : ((L.length : Int) == many) = false := by simp [hq]
        have HF : Hid (b = false) := by rw [Hid, ← HR.out, fitB, decide_eq_false hq]; rfl
        clear hke hall hq
        go_wp2_with fail
        go_ret
        exact ⟨by rw [HF.out]; first | rfl | simp_all, rfl⟩
end Go.Proofs.Ytdagnmhioellhaa

/- What a product of two matrices makes of lanes is what both make in turn. -/

namespace Go.Proofs.Ytdagnmhioellhaa
set_option linter.unusedVariables false
set_option linter.unusedSimpArgs false

theorem dot_comm {u v : Nat → Nat} (hu : B8 u) (hv : B8 v) : ∀ f, dot f u v = dot f v u
  | 0 => rfl
  | f + 1 => by rw [dot_succ, dot_succ, dot_comm hu hv f, Gf.mul_comm (hu f) (hv f)]
/-- One byte of what a row makes, as a sum of products. -/
theorem rowLane_dot (ms : List Nat) (l : List ByteArray) (ca n i : Nat) {p : Nat} (hp : p < n) (k : Nat) :
    byN (rowLane ms l ca n i k) p = dot k (fun k => byN (l.getD k ByteArray.empty) p) (fun k => ms.getD (i * ca + k) 0) := rowLane_byte ms l ca n i hp k
theorem applyL_get {ms : List Nat} {l : List ByteArray} {ra ca n i : Nat} (h : i < ra) : (applyL ms l ra ca n).getD i ByteArray.empty = rowLane ms l ca n i ca := by
  simp [applyL, List.getD, h]
theorem rowLane_times {ms bs : List Nat} (ha : ∀ x ∈ ms, x < 256) (hb : ∀ x ∈ bs, x < 256) (l : List ByteArray) (ra ca cb n i : Nat) (hi : i < ra) :
    rowLane (timesL ms bs ra ca cb) l cb n i cb = rowLane ms (applyL bs l ca cb n) ca n i ca := by
  apply str_extM
  · rw [rowLane_size, rowLane_size]
  intro p hp
  rw [rowLane_size] at hp
  rw [rowLane_dot _ _ _ _ _ hp, rowLane_dot _ _ _ _ _ hp]
  have hL : B8 (fun k => byN (l.getD k ByteArray.empty) p) := fun k => byN_lt _ _
  have hM : B8 (fun j => ms.getD (i * ca + j) 0) := fun j => getD_lt' ha _
  have hB : ∀ j, B8 (fun k => bs.getD (j * cb + k) 0) := fun j k => getD_lt' hb _
  have hT : B8 (fun k => dot ca (fun j => ms.getD (i * ca + j) 0) (fun j => bs.getD (j * cb + k) 0)) := fun k => dot_lt hM _
  have e1 : dot cb (fun k => byN (l.getD k ByteArray.empty) p) (fun k => (timesL ms bs ra ca cb).getD (i * cb + k) 0)
      = dot cb (fun k => byN (l.getD k ByteArray.empty) p) (fun k => dot ca (fun j => ms.getD (i * ca + j) 0) (fun j => bs.getD (j * cb + k) 0)) :=
    dot_congr (fun _ _ => rfl) (fun k hk => times_ent (ms := ms) (bs := bs) hi hk)
  have e2 : dot ca (fun j => byN ((applyL bs l ca cb n).getD j ByteArray.empty) p) (fun j => ms.getD (i * ca + j) 0)
      = dot ca (fun j => dot cb (fun k => bs.getD (j * cb + k) 0) (fun k => byN (l.getD k ByteArray.empty) p)) (fun j => ms.getD (i * ca + j) 0) :=
    dot_congr (fun j hj => by rw [applyL_get hj, rowLane_dot _ _ _ _ _ hp, dot_comm hL (hB j)]) (fun _ _ => rfl)
  rw [e1, e2, dot_comm hL hT, dot_dot hM hB hL, dot_comm (fun j => dot_lt (hB j) _) hM]
theorem apply_times {ms bs : List Nat} (ha : ∀ x ∈ ms, x < 256) (hb : ∀ x ∈ bs, x < 256) (l : List ByteArray) (ra ca cb n : Nat) :
    applyL (timesL ms bs ra ca cb) l ra cb n = applyL ms (applyL bs l ca cb n) ra ca n := by
  rw [applyL, applyL]
  apply List.map_congr_left
  intro i hi
  exact rowLane_times ha hb l ra ca cb n i (List.mem_range.1 hi)
theorem applyL_sizes {ms : List Nat} {l : List ByteArray} {ra ca n : Nat} : ∀ s ∈ applyL ms l ra ca n, s.size = n := by
  intro s hs
  rw [applyL, List.mem_map] at hs
  obtain ⟨i, _, rfl⟩ := hs
  exact rowLane_size _ _ _ _ _ _
end Go.Proofs.Ytdagnmhioellhaa
