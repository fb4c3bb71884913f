/- siloref1.Apply, walked. -/
import Derived.Test.YtijcmdcjjcemfaaPkA08
import Derived.Test.YtijcmdcjjcemfaaPkA03
import Derived.Deep.Onto
import Derived.OrdersHeld
import Derived.Deep.RegionHeld3
import Derived.Test.YtijcmdcjjcemfaaPkA19
import Derived.Test.YtijcmdcjjcemfaaPkA15
import Derived.Test.YtijcmdcjjcemfaaPkA13
import Derived.Test.YtijcmdcjjcemfaaPkA02
import Derived.Test.YtijcmdcjjcemfaaPkA00
namespace Go.Proofs.Ytijcmdcjjcemfaa
open Go.ChangeShapes Go.WideShapes Go.ChangeAt Go.RowKit Go.Joins
set_option linter.unusedVariables false
set_option linter.unusedSimpArgs false

theorem below_of_drewQ {w w' : World} (h : Below w.drew.heap.size w.drew w') : Below w.heap.size w w' :=
  (show Below w.heap.size w w.drew from ⟨rfl, rfl, rfl, Nat.le_refl _, fun _ _ => rfl⟩).trans h

set_option maxRecDepth 100000 in
set_option maxHeartbeats 8000000 in
theorem refApply_any (ra ca n : Nat) (va vl : Value) (ms : List Nat) (l : List ByteArray) (w : World) (ha : BytesV w va ms) (hl : Strs6 w vl l) (hla : ms.length = ra * ca) (hll : l.length = ca) (hln : ∀ s ∈ l, s.size = n) (hn : n ≤ 8192)
    (h1 : 1 ≤ ra) (h2 : ra ≤ 16) (h3 : 1 ≤ ca) (h4 : ca ≤ 16) :
    Calls Try.prog 23 #[matV (ra : Int) (ca : Int) va, vl] w fun e w' => ∃ r, e = .returned r ∧ w'.ownsRow w.heap.size 9 1 r ra ((applyL ms l ra ca n).map Value.string) ∧ Below w.heap.size w w' := by
  obtain ⟨i0, hi, hz0, hz1, hz2⟩ := info_parts infoStr6
  obtain ⟨Aa, ka, rfl⟩ := ha.shape
  obtain ⟨Al, kl, rfl⟩ := hl.shape
  have tA := Three.new w (.int .i64 (ra : Int)) (.int .i64 (ca : Int)) (.slice Aa ms.length ka) 55
  have hbe := (Below.refl w.heap.size w).alloc (Nat.le_refl _) (.cells #[.int .i64 (ra : Int), .int .i64 (ca : Int), .slice Aa ms.length ka] 55)
  have HTA := Lib.hid tA
  have HBE := Lib.hid hbe
  have HA := Lib.hid ha
  have HL := Lib.hid hl
  have HLA := Lib.hid hla
  have HLL := Lib.hid hll
  have HLN := Lib.hid hln
  have hl0 : 0 < l.length := by omega
  have hl16 : l.length ≤ 16 := by omega
  have hmk := hmkM (n := n) (by omega)
  have hcv : ∀ W : World, (convert 35 9 (.slice (some ⟨W.heap.size, 0, none⟩) n n)).run Try.prog (W.alloc (.cells (cellsOf8 (List.replicate n 0)) 5)) = .ok (.string (zeroN n)) (W.alloc (.cells (cellsOf8 (List.replicate n 0)) 5)) := fun W => by
    have hB : BytesBlk (W.alloc (.cells (cellsOf8 (List.replicate n 0)) 5)) W.heap.size (List.replicate n 0) := bytesBlk_new W (ns := List.replicate n 0) rfl _ (by intro x hx; rw [List.eq_of_mem_replicate hx]; decide)
    have := convert_bytes (P := Try.prog) (b := W.heap.size) (off := 0) (cap := n) (ns := List.replicate n 0) Try.underlying35 Try.underlying5 Try.underlying9 (BytesBlk.cells hB)
    rw [List.length_replicate] at this
    exact this
  obtain ⟨C, hC⟩ : ∃ C, C = cellsOf8 (List.replicate n 0) := ⟨_, rfl⟩
  rw [← hC] at hmk hcv
  clear tA hbe ha hl hla hll hln hC
  unfold matV
  go_enter Try.func23, Try.ntmps23
  go_wp2_with fail
  generalize w.alloc (.cells #[.int .i64 (ra : Int), .int .i64 (ca : Int), .slice Aa ms.length ka] 55) = W0 at *
  go_loopw [5, 6] (fun r q wr => ∃ (i : Nat) (r0 : Value), r0 = r ∧ q = .int .i64 i ∧ i ≤ ra ∧ wr.ownsRow W0.heap.size 9 1 r i (((List.range i).map fun i => rowLane ms l ca n i ca).map Value.string) ∧ Hid (Below W0.heap.size W0 wr)) (fun _ q _ => ra - (intOf q).toNat)
  case atStart => exact ⟨0, _, rfl, rfl, by omega, World.ownsRow_nil _ _ _ _, Lib.hid (Below.refl _ _)⟩
  case round =>
    obtain ⟨i, r, rfl, rfl, hir, hown, HB⟩ := hrel
    obtain ⟨a0, a1, a2, a3, a4, a5⟩ := HTA.out.below HB.out
    clear a3 a4 a5
    have hbw := HBE.out.trans (HB.out.mono HBE.out.size)
    by_cases hlt : i < ra
    · obtain ⟨bl, ol, rfl, hbl, hcell⟩ := (HL.out.below hbw).at_ hl0
      rw [Nat.add_zero] at hcell
      obtain ⟨s0, hs0⟩ : ∃ s0, s0 = l[0]'hl0 := ⟨_, rfl⟩
      rw [← hs0] at hcell
      have hs0n : s0.size = n := by rw [hs0]; exact HLN.out _ (List.getElem_mem _)
      have i1 : (0 : Int) < (l.length : Int) := by omega
      clear hs0
      have hown0 := hown.alloc (.cells C 5)
      have hb0 := HB.out.alloc HB.out.size (.cells C 5)
      obtain ⟨z, hz⟩ : ∃ z, z = zeroN n := ⟨_, rfl⟩
      rw [← hz] at hcv
      have HZ : Hid (z = rowLane ms l ca n i 0) := hz
      clear hz
      go_wp2_with fail
      rw [HZ.out]
      clear hmk hcv hs0n hcell HZ a0 a1 a2
      generalize wr.alloc (.cells C 5) = V at *
      go_loopw [7, 8] (fun u qq wx => ∃ k : Nat, qq = .int .i64 k ∧ k ≤ ca ∧ u = .string (rowLane ms l ca n i k) ∧ wx.ownsRow W0.heap.size 9 1 r i (((List.range i).map fun i => rowLane ms l ca n i ca).map Value.string) ∧ Hid (Below W0.heap.size W0 wx)) (fun _ qq _ => ca - (intOf qq).toNat)
      case atStart => exact ⟨0, rfl, by omega, rfl, hown0, Lib.hid hb0⟩
      case round =>
        clear hown0 hb0 hown HB hbw
        obtain ⟨k, rfl, hk, rfl, hown, HB⟩ := hrel
        obtain ⟨a0, a1, a2, a3, a4, a5⟩ := HTA.out.below HB.out
        clear a3 a4 a5
        have hbw := HBE.out.trans (HB.out.mono HBE.out.size)
        by_cases hkc : k < ca
        · have hkl : k < l.length := by rw [HLL.out]; exact hkc
          have hia : i * ca + k < ms.length := by
            rw [HLA.out]
            have := Nat.mul_le_mul_right ca hlt
            rw [Nat.succ_mul] at this; omega
          obtain ⟨bl', ol', eA, _, hlc⟩ := (HL.out.below hbw).at_ hkl
          cases eA
          obtain ⟨ba, oa, rfl, _, hac⟩ := (HA.out.below hbw).at_ hia
          have hm256 := HA.out.lt (i * ca + k)
          have HNX := Lib.hid (rowLane_succ ms l ca n i k)
          have hsn : (l[k]'hkl).size = n := HLN.out _ (List.getElem_mem _)
          rw [← List.getElem_eq_getD (h := hkl)] at HNX
          generalize l[k]'hkl = sk at *
          have hrs := rowLane_size ms l ca n i k
          obtain ⟨cur, hcur⟩ : ∃ cur, cur = rowLane ms l ca n i k := ⟨_, rfl⟩
          rw [← hcur] at hrs HNX
          rw [← hcur]
          obtain ⟨x1, hx1⟩ : ∃ x1, x1 = i * ca := ⟨_, rfl⟩
          have p1 : (i : Int) * (ca : Int) = (x1 : Int) := by rw [hx1]; simp
          have hxs1 : x1 ≤ 16 * 16 := by rw [hx1]; exact Nat.mul_le_mul (by omega) h4
          rw [← hx1] at hac hia hm256 HNX
          generalize ms.getD (x1 + k) 0 = mm at *
          have hsc := scaledS_size sk mm
          have HMX := Lib.hid (mixS_scaled cur sk mm (by omega))
          have k0 : (0 : Int) ≤ (x1 : Int) + (k : Int) := by omega
          have k1 : (x1 : Int) + (k : Int) < (ms.length : Int) := by omega
          have k2 : (0 : Int) ≤ (k : Int) := by omega
          have k3 : (k : Int) < (l.length : Int) := by omega
          have e1 : ((x1 : Int) + (k : Int)).toNat = x1 + k := by omega
          have w2 : IntKind.i64.wrap ((x1 : Int) + (k : Int)) = (x1 : Int) + (k : Int) := IntWalk.i64_in _ (by omega)
          have w4 : IntKind.i64.wrap (x1 : Int) = (x1 : Int) := IntWalk.i64_in _ (by omega)
          clear hx1 hcur
          have HS : Hid (∀ W', Below wr.heap.size wr W' → W'.cell? ⟨w.heap.size, 0, none⟩ = some (.int .i64 (ra : Int)) ∧ W'.cell? ⟨w.heap.size, 1, none⟩ = some (.int .i64 (ca : Int)) ∧ W'.cell? ⟨w.heap.size, 2, none⟩ = some (.slice (some ⟨ba, oa, none⟩) ms.length ka) ∧ W'.cell? ⟨bl, ol + k, none⟩ = some (.string sk) ∧ W'.cell? ⟨ba, oa + (x1 + k), none⟩ = some (.int .u8 (mm : Int))) := fun W' h =>
            ⟨below_celllt a0 (cell_block a0) h, below_celllt a1 (cell_block a1) h, below_celllt a2 (cell_block a2) h, below_celllt hlc (cell_block hlc) h, below_celllt hac (cell_block hac) h⟩
          have HSCA : Hid (∀ W, Calls Try.prog 33 #[.string sk, .int .u8 (mm : Int)] W fun e w' => e = .returned (.string (scaledS sk mm)) ∧ Below W.heap.size W w') := fun W => refScaled_any sk mm W (by omega) hm256
          have HADD : Hid (∀ (W : World), Calls Try.prog 32 #[.string cur, .string (scaledS sk mm)] W fun e w' => e = .returned (.string (addedS cur (scaledS sk mm))) ∧ Below W.heap.size W w') := fun W => refAdded_any cur (scaledS sk mm) W (by omega) (by omega) (by omega)
          have HOWN := Lib.hid hown
          clear hsn hrs hsc hown hbw
          go_upto_region 9 with (fail)
          go_region_held3 (fun W' => W'.cell? ⟨w.heap.size, 0, none⟩ = some (.int .i64 (ra : Int)) ∧ W'.cell? ⟨w.heap.size, 1, none⟩ = some (.int .i64 (ca : Int)) ∧ W'.cell? ⟨w.heap.size, 2, none⟩ = some (.slice (some ⟨ba, oa, none⟩) ms.length ka) ∧ W'.cell? ⟨bl, ol + k, none⟩ = some (.string sk) ∧ W'.cell? ⟨ba, oa + (x1 + k), none⟩ = some (.int .u8 (mm : Int))) (first | exact HS.out _ hcum | exact HS.out _ (Below.drew hcum) | go_keep)
            (first | (go_at_call 33; refine (HSCA.out _).mono ?_; rintro e w1 ⟨rfl, hbx⟩; have hcum := (by first | exact cum2 (Below.drew (Below.refl wr.heap.size wr)) hbx | exact cum2d (Below.refl wr.heap.size wr) hbx | exact hbx)) | (go_at_call 32; refine (HADD.out _).mono ?_; rintro e w2 ⟨rfl, hby⟩; have hcum := (by first | exact cum2 hcum hby | exact cum2d hcum hby)))
          rw [HMX.out, ← HNX.out]
          clear a0 a1 a2 hlc hac
          have hown2 := own_below HOWN.out hcum
          have hB2 := HB.out.trans (hcum.mono HB.out.size)
          clear HS HOWN HB HSCA HADD
          go_wp2_with fail
          go_roundw
          case rel => exact ⟨k + 1, by go_num, by omega, rfl, hown2, Lib.hid hB2⟩
          case measure => simp [intOf]; omega
        · have hke : k = ca := by omega
          rw [hke]
          have hjd : decide ((ca : Int) < (ca : Int)) = false := by simp
          have HT : Hid (((List.range (i + 1)).map fun i => rowLane ms l ca n i ca).map Value.string = ((List.range i).map fun i => rowLane ms l ca n i ca).map Value.string ++ [.string (rowLane ms l ca n i ca)]) := by
            rw [Hid, List.range_succ, List.map_append, List.map_append]; rfl
          generalize rowLane ms l ca n i ca = cur at *
          clear hke
          have hW0 := HB.out.size
          have hwW := HBE.out.size
          go_wp2_with (first | (at_builtin; refine wpList_append_own _ rfl _ _ 23 rfl W0.heap.size 9 i0 (.string ByteArray.empty) 1 16 Try.underlying23 hi hz0 hz1 hz2 rfl (by decide) _ _ _ rfl (hown.alloc _) ⟨wr.heap.size, 0, none⟩ 1 1 [.string cur] rfl rfl ?c1 ?c2 ?c3 ?c4 ?c5 ?_) | go_in)
          case c1 => exact cell_one_new' _ _ _
          case c2 => intro u hu; simp at hu; subst hu; rfl
          case c3 => unfold maxLen; omega
          case c4 => omega
          case c5 => simp; omega
          all_goals
            intro v' w1 hown' hgrow _
            have hbx := append_below HB.out hown hgrow
            clear hown hgrow
            go_wp2_with fail
            go_roundw
            case rel => exact ⟨i + 1, _, rfl, by go_num, by omega, by rw [HT.out]; simpa only [List.map_map] using hown', Lib.hid hbx⟩
            case measure => simp [intOf]; omega
    · have hke : i = ra := by omega
      rw [hke] at hown
      clear hke
      go_wp2_with fail
      all_goals
        go_ret
        exact ⟨_, rfl, World.ownsRow.mono hown HBE.out.size, hbw⟩
end Go.Proofs.Ytijcmdcjjcemfaa

/- code.texts, code.Encode, code.Matrix, siloref4.Texts, siloref4.Encode, walked. -/

namespace Go.Proofs.Ytijcmdcjjcemfaa
open Go.ChangeShapes Go.WideShapes Go.ChangeAt Go.RowKit Go.Joins
set_option linter.unusedVariables false
set_option linter.unusedSimpArgs false

/-- A text that is not of this size. -/
def badS (z : Int) (s : ByteArray) : Bool := !decide ((s.size : Int) = z)
/-- So many texts of this size? -/
def fitB (L : List ByteArray) (many z : Int) : Bool := decide ((L.length : Int) = many) && !L.any (badS z)
theorem fitB_all {L : List ByteArray} {many z : Int} (h : fitB L many z = true) : (L.length : Int) = many ∧ ∀ s ∈ L, (s.size : Int) = z := by
  unfold fitB at h
  simp [badS] at h
  exact h
theorem fitB_of {L : List ByteArray} {many z : Int} (h1 : (L.length : Int) = many) (h2 : ∀ s ∈ L, (s.size : Int) = z) : fitB L many z = true := by
  unfold fitB
  simp [badS]
  exact ⟨h1, h2⟩

set_option maxRecDepth 100000 in
theorem textsBad_is (s : ByteArray) (z : Int) (B : Nat) (b : Bool) (hb : badS z s = b) (w : World) (h : w.cell? ⟨B, 2, none⟩ = some (.int .i64 z)) :
    Calls Try.prog 57 #[.string s, .pointer (some ⟨B, 0, none⟩)] w fun e w' => e = .returned (.bool b) ∧ w = w' := by
  unfold badS at hb
  by_cases h1 : (s.size : Int) = z
  · have hd : ((s.size : Int) == z) = true := by simp [h1]
    have HB : Hid (b = false) := by rw [Hid, ← hb]; simp [h1]
    clear hb h1
    go_enter Try.func57, Try.ntmps57
    go_wp2_with fail
    go_ret
    exact ⟨by rw [HB.out]; first | rfl | simp_all, rfl⟩
  · have hd : ((s.size : Int) == z) = false := by simp [h1]
    have HB : Hid (b = true) := by rw [Hid, ← hb]; simp [h1]
    clear hb h1
    go_enter Try.func57, Try.ntmps57
    go_wp2_with fail
    go_ret
    exact ⟨by rw [HB.out]; first | rfl | simp_all, rfl⟩

/-- Where the first such one is, or -1. -/
def SizeAt (z : Int) (L : List ByteArray) (w : World) (e : Ending) (w' : World) : Prop := ∃ p : Int, e = .returned (.int .i64 p) ∧ Hid (decide (0 ≤ p) = L.any (badS z)) ∧ w = w'

set_option maxRecDepth 100000 in
set_option maxHeartbeats 1000000 in
theorem indexSize_any (v : Value) (L : List ByteArray) (z : Int) (B : Nat) (w : World) (hN : Strs6 w v L) (hl : L.length ≤ 9000000000000000000) (h : w.cell? ⟨B, 2, none⟩ = some (.int .i64 z)) :
    Calls Try.prog 51 #[v, .func (.func 57) #[] #[.pointer (some ⟨B, 0, none⟩)]] w (SizeAt z L w) := by
  obtain ⟨A, cap, rfl⟩ := hN.shape
  have HS := Lib.hid hN
  clear hN
  go_enter Try.func51, Try.ntmps51
  go_wp2_with fail
  go_loop [8] (fun i => ∃ k : Nat, i = .int .i64 k ∧ k ≤ L.length ∧ Hid ((L.take k).any (badS z) = false)) (fun i => L.length - (intOf i).toNat)
  case atStart => exact ⟨0, rfl, by omega, by simp [Hid]⟩
  case round =>
    obtain ⟨k, rfl, hk, HK⟩ := hrel
    by_cases hlt : k < L.length
    · obtain ⟨b, off, rfl, hbl, hcell⟩ := HS.out.at_ hlt
      have i0 : (0 : Int) ≤ (k : Int) := by omega
      have i1 : (k : Int) < (L.length : Int) := by omega
      have HT : Hid ((L.take (k + 1)).any (badS z) = badS z (L[k]'hlt)) := by
        rw [Hid, List.take_succ_eq_append_getElem hlt, List.any_append, HK.out]
        simp
      have HM : Hid (L[k]'hlt ∈ L) := List.getElem_mem hlt
      generalize L[k]'hlt = s at *
      cases hb : badS z s
      · have HBX := Lib.hid hb
        clear hb
        go_wp2_with (first | (go_at_call 57; refine (textsBad_is s z B false HBX.out _ h).mono ?_; rintro e w' ⟨rfl, rfl⟩))
        go_round
        case rel => exact ⟨k + 1, by go_num, by omega, by rw [Hid, HT.out]; exact HBX.out⟩
        case measure => simp [intOf]; omega
      · have HBX := Lib.hid hb
        clear hb
        go_wp2_with (first | (go_at_call 57; refine (textsBad_is s z B true HBX.out _ h).mono ?_; rintro e w' ⟨rfl, rfl⟩))
        go_ret
        refine ⟨_, rfl, ?_, rfl⟩
        rw [Hid, decide_eq_true (by omega)]
        symm
        rw [List.any_eq_true]
        exact ⟨s, HM.out, HBX.out⟩
    · have hke : k = L.length := by omega
      have HT : Hid (L.any (badS z) = false) := by
        have := HK.out
        rw [hke, List.take_length] at this
        exact this
      clear hke
      go_wp2_with fail
      go_ret
      exact ⟨_, rfl, by rw [Hid, HT.out]; rfl, rfl⟩

set_option maxRecDepth 100000 in
theorem containsSize_is (v : Value) (L : List ByteArray) (z : Int) (B : Nat) (b : Bool) (hb : L.any (badS z) = b) (w : World) (hN : Strs6 w v L) (hl : L.length ≤ 9000000000000000000) (h : w.cell? ⟨B, 2, none⟩ = some (.int .i64 z)) :
    Calls Try.prog 39 #[v, .func (.func 57) #[] #[.pointer (some ⟨B, 0, none⟩)]] w fun e w' => e = .returned (.bool b) ∧ w = w' := by
  have HI := Lib.hid (indexSize_any v L z B w hN hl h)
  have HB := Lib.hid hb
  clear hN h hb
  go_enter Try.func39, Try.ntmps39
  go_wp2_with fail
  refine HI.out.mono ?_
  rintro e w' ⟨p, rfl, HP, rfl⟩
  go_wp2_with fail
  go_ret
  exact ⟨by show Ending.returned (.bool (decide (0 ≤ p))) = _; rw [HP.out, HB.out], rfl⟩

set_option maxRecDepth 100000 in
set_option maxHeartbeats 1000000 in
theorem texts4_any (k m z many : Int) (v : Value) (L : List ByteArray) (b : Bool) (hb : (mayB (k, m, z) && fitB L many z) = b) (w : World) (hN : Strs6 w v L) (hl : L.length ≤ 9000000000000000000) :
    Calls Try.prog 43 #[.agg #[.int .i64 k, .int .i64 m, .int .i64 z], v, .int .i64 many] w fun e w' => e = .returned (.bool b) ∧ Below w.heap.size w w' := by
  obtain ⟨A, cap, rfl⟩ := hN.shape
  obtain ⟨o, ho⟩ : ∃ o, o = (Obj.cells #[.int .i64 k, .int .i64 m, .int .i64 z] 29) := ⟨_, rfl⟩
  have tA := Three.new w (.int .i64 k) (.int .i64 m) (.int .i64 z) 29
  have hbe := (Below.refl w.heap.size w).alloc (Nat.le_refl _) (.cells #[.int .i64 k, .int .i64 m, .int .i64 z] 29)
  rw [← ho] at tA hbe
  have HB := Lib.hid hbe
  have HT := Lib.hid tA
  have HS := Lib.hid (hN.below hbe)
  obtain ⟨a0, a1, a2, _, _, _⟩ := tA
  rw [ho] at a0 a1 a2
  clear hbe hN
  obtain ⟨mb, hmb⟩ : ∃ mb, mb = mayB (k, m, z) := ⟨_, rfl⟩
  rw [← hmb] at hb
  have HMB := Lib.hid hmb.symm
  have HR := Lib.hid hb
  clear hmb hb
  go_enter Try.func43, Try.ntmps43
  go_wp2_with fail
  rw [← ho]
  refine (may_any k m z _).mono ?_
  rintro e w1 ⟨rfl, hb1⟩
  rw [HMB.out]
  have HB1 := Lib.hid (HB.out.trans (hb1.mono HB.out.size))
  have HS1 := Lib.hid (HS.out.below hb1)
  have HT1 := Lib.hid (HT.out.below hb1)
  clear hb1 a0 a1 a2 ho HB HS HT
  cases mb
  · have HF : Hid (b = false) := by rw [Hid, ← HR.out]; rfl
    go_wp2_with fail
    go_ret
    exact ⟨by rw [HF.out]; rfl, HB1.out⟩
  · by_cases h1 : (L.length : Int) = many
    · have hd : ((L.length : Int) == many) = true := by simp [h1]
      have HC := Lib.hid (fun W (h : w1 = W) => containsSize_is (.slice A L.length cap) L z w.heap.size (L.any (badS z)) rfl W (h ▸ HS1.out) hl (h ▸ HT1.out.c2))
      have HF : Hid (b = !L.any (badS z)) := by rw [Hid, ← HR.out, fitB, decide_eq_true h1]; rfl
      clear h1
      go_wp2_with (first | (go_at_call 39; refine (HC.out _ rfl).mono ?_; rintro e w' ⟨rfl, rfl⟩))
      go_ret
      exact ⟨by rw [HF.out]; rfl, HB1.out⟩
    · have hd : ((L.length : Int) == many) = false := by simp [h1]
      have HF : Hid (b = false) := by rw [Hid, ← HR.out, fitB, decide_eq_false h1]; rfl
      clear h1
      go_wp2_with fail
      go_ret
      exact ⟨by rw [HF.out]; rfl, HB1.out⟩

end Go.Proofs.Ytijcmdcjjcemfaa

/- What a product of two matrices makes of lanes is what both make in turn. -/

namespace Go.Proofs.Ytijcmdcjjcemfaa
set_option linter.unusedVariables false
set_option linter.unusedSimpArgs false

theorem dot_comm {u v : Nat → Nat} (hu : B8 u) (hv : B8 v) : ∀ f, dot f u v = dot f v u
  | 0 => rfl
  | f + 1 => by rw [dot_succ, dot_succ, dot_comm hu hv f, Gf.mul_comm (hu f) (hv f)]
/-- One byte of what a row makes, as a sum of products. -/
theorem rowLane_dot (ms : List Nat) (l : List ByteArray) (ca n i : Nat) {p : Nat} (hp : p < n) (k : Nat) :
    byN (rowLane ms l ca n i k) p = dot k (fun k => byN (l.getD k ByteArray.empty) p) (fun k => ms.getD (i * ca + k) 0) := rowLane_byte ms l ca n i hp k
theorem applyL_get {ms : List Nat} {l : List ByteArray} {ra ca n i : Nat} (h : i < ra) : (applyL ms l ra ca n).getD i ByteArray.empty = rowLane ms l ca n i ca := by
  simp [applyL, List.getD, h]
theorem rowLane_times {ms bs : List Nat} (ha : ∀ x ∈ ms, x < 256) (hb : ∀ x ∈ bs, x < 256) (l : List ByteArray) (ra ca cb n i : Nat) (hi : i < ra) :
    rowLane (timesL ms bs ra ca cb) l cb n i cb = rowLane ms (applyL bs l ca cb n) ca n i ca := by
  apply str_extM
  · rw [rowLane_size, rowLane_size]
  intro p hp
  rw [rowLane_size] at hp
  rw [rowLane_dot _ _ _ _ _ hp, rowLane_dot _ _ _ _ _ hp]
  have hL : B8 (fun k => byN (l.getD k ByteArray.empty) p) := fun k => byN_lt _ _
  have hM : B8 (fun j => ms.getD (i * ca + j) 0) := fun j => getD_lt' ha _
  have hB : ∀ j, B8 (fun k => bs.getD (j * cb + k) 0) := fun j k => getD_lt' hb _
  have hT : B8 (fun k => dot ca (fun j => ms.getD (i * ca + j) 0) (fun j => bs.getD (j * cb + k) 0)) := fun k => dot_lt hM _
  have e1 : dot cb (fun k => byN (l.getD k ByteArray.empty) p) (fun k => (timesL ms bs ra ca cb).getD (i * cb + k) 0)
      = dot cb (fun k => byN (l.getD k ByteArray.empty) p) (fun k => dot ca (fun j => ms.getD (i * ca + j) 0) (fun j => bs.getD (j * cb + k) 0)) :=
    dot_congr (fun _ _ => rfl) (fun k hk => times_ent (ms := ms) (bs := bs) hi hk)
  have e2 : dot ca (fun j => byN ((applyL bs l ca cb n).getD j ByteArray.empty) p) (fun j => ms.getD (i * ca + j) 0)
      = dot ca (fun j => dot cb (fun k => bs.getD (j * cb + k) 0) (fun k => byN (l.getD k ByteArray.empty) p)) (fun j => ms.getD (i * ca + j) 0) :=
    dot_congr (fun j hj => by rw [applyL_get hj, rowLane_dot _ _ _ _ _ hp, dot_comm hL (hB j)]) (fun _ _ => rfl)
  rw [e1, e2, dot_comm hL hT, dot_dot hM hB hL, dot_comm (fun j => dot_lt (hB j) _) hM]
theorem apply_times {ms bs : List Nat} (ha : ∀ x ∈ ms, x < 256) (hb : ∀ x ∈ bs, x < 256) (l : List ByteArray) (ra ca cb n : Nat) :
    applyL (timesL ms bs ra ca cb) l ra cb n = applyL ms (applyL bs l ca cb n) ra ca n := by
  rw [applyL, applyL]
  apply List.map_congr_left
  intro i hi
  exact rowLane_times ha hb l ra ca cb n i (List.mem_range.1 hi)
theorem applyL_sizes {ms : List Nat} {l : List ByteArray} {ra ca n : Nat} : ∀ s ∈ applyL ms l ra ca n, s.size = n := by
  intro s hs
  rw [applyL, List.mem_map] at hs
  obtain ⟨i, _, rfl⟩ := hs
  exact rowLane_size _ _ _ _ _ _
end Go.Proofs.Ytijcmdcjjcemfaa

/- code.Encode, code.Matrix, siloref4.Encode, walked. -/

namespace Go.Proofs.Ytijcmdcjjcemfaa
open Go.ChangeShapes Go.WideShapes Go.ChangeAt Go.RowKit Go.Joins
set_option linter.unusedVariables false
set_option linter.unusedSimpArgs false

theorem mayB_yes {k m z : Int} (h : mayB (k, m, z) = true) : ∃ K M : Nat, k = (K : Int) ∧ m = (M : Int) ∧ 1 ≤ K ∧ K ≤ 8 ∧ M ≤ 6 ∧ 1 ≤ z ∧ z ≤ 120 := by
  have h := of_decide_eq_true h
  dsimp only at h
  exact ⟨k.toNat, m.toNat, by omega, by omega, by omega, by omega, by omega, by omega, by omega⟩
/-- All pieces of data. -/
def encL (k m z : Int) (L : List ByteArray) : List ByteArray := applyL (genL (k + m).toNat k.toNat) L (k + m).toNat k.toNat z.toNat
theorem encL_nat (K M : Nat) (z : Int) (L : List ByteArray) : encL (K : Int) (M : Int) z L = applyL (genL (K + M) K) L (K + M) K z.toNat := by
  have h : ((K : Int) + (M : Int)).toNat = K + M := by omega
  rw [encL, h, Int.toNat_natCast]
theorem encL_len (k m z : Int) (L : List ByteArray) : (encL k m z L).length = (k + m).toNat := by rw [encL, applyL_length]
theorem encL_size {k m z : Int} {L : List ByteArray} : ∀ s ∈ encL k m z L, s.size = z.toNat := applyL_sizes
def ifL {α : Type} (b : Bool) (l : List α) : List α := if b then l else []

/-- The generator, or none. -/
def genK (b : Bool) (k m : Int) : List Nat := if b then genL (k + m).toNat k.toNat else []

set_option maxRecDepth 100000 in
set_option maxHeartbeats 1000000 in
theorem encode_all (k m z : Int) (v : Value) (L : List ByteArray) (b : Bool) (hb : (mayB (k, m, z) && fitB L k z) = b) (w : World) (hN : Strs6 w v L) (hl : L.length ≤ 9000000000000000000) :
    Calls Try.prog 28 #[.agg #[.int .i64 k, .int .i64 m, .int .i64 z], v] w fun e w' => ∃ r, e = .returned (.tuple #[r, .int .i64 (mulE b)]) ∧ w'.ownsRow w.heap.size 9 1 r (ifL b (encL k m z L)).length ((ifL b (encL k m z L)).map Value.string) ∧ Below w.heap.size w w' := by
  obtain ⟨A, cap, rfl⟩ := hN.shape
  obtain ⟨o, ho⟩ : ∃ o, o = (Obj.cells #[.int .i64 k, .int .i64 m, .int .i64 z] 29) := ⟨_, rfl⟩
  have tA := Three.new w (.int .i64 k) (.int .i64 m) (.int .i64 z) 29
  have hbe := (Below.refl w.heap.size w).alloc (Nat.le_refl _) (.cells #[.int .i64 k, .int .i64 m, .int .i64 z] 29)
  rw [← ho] at tA hbe
  have HB := Lib.hid hbe
  have HT := Lib.hid tA
  have HS := Lib.hid (hN.below hbe)
  have HR := Lib.hid hb
  obtain ⟨a0, a1, a2, _, _, _⟩ := tA
  rw [ho] at a0 a1 a2
  clear hbe hN hb
  go_enter Try.func28, Try.ntmps28
  go_wp2_with fail
  rw [← ho]
  refine (texts4_any k m z k _ L b HR.out _ HS.out hl).mono ?_
  rintro e w1 ⟨rfl, hb1⟩
  have HB1 := Lib.hid (HB.out.trans (hb1.mono HB.out.size))
  have HS1 := Lib.hid (HS.out.below hb1)
  have HT1 := Lib.hid (HT.out.below hb1)
  obtain ⟨a0, a1, a2, _, _, _⟩ := HT1.out
  clear hb1 ho HB HS HT
  cases b
  · go_wp2_with fail
    go_ret2
    exact ⟨_, rfl, World.ownsRow_nil _ _ _ _, HB1.out⟩
  · have hr := HR.out
    rw [Bool.and_eq_true] at hr
    obtain ⟨K, M, rfl, rfl, k1, k8, m6, z1, z2⟩ := mayB_yes hr.1
    obtain ⟨h1, h2⟩ := fitB_all hr.2
    have HLL : Hid (L.length = K) := by rw [Hid]; omega
    have HLZ : Hid (∀ s ∈ L, s.size = z.toNat) := fun s hs => by have := h2 s hs; omega
    clear hr h1 h2
    go_wp2_with fail
    refine (gen_any K M z w1 k1 k8 m6).mono ?_
    rintro e w2 ⟨vr, rfl, hmr, hb2⟩
    obtain ⟨B4, h41, h42, rfl, hbk4, hl4⟩ := hmr
    obtain ⟨n, hn⟩ : ∃ n, n = K + M := ⟨_, rfl⟩
    have HNN := Lib.hid hn
    rw [← hn] at hbk4 hl4
    rw [← hn]
    have hn14 : n ≤ 14 := by omega
    have hn1 : 1 ≤ n := by omega
    clear hn
    have hbv := BytesV.of_blk (c := n * K) hbk4 h42
    rw [hl4] at hbv
    have HV := Lib.hid hbv
    have HL4 := Lib.hid hl4
    have HB2 := Lib.hid (HB1.out.trans (hb2.mono HB1.out.size))
    have HS2 := Lib.hid (HS1.out.below hb2)
    clear hb2 hbk4 hl4 hbv a0 a1 a2
    have hq : n * K ≤ 14 * 8 := Nat.mul_le_mul hn14 k8
    have HC := lanes_any n K z.toNat B4 0 (n * K) (n * K) (.slice A L.length cap) (genL n K) L w2 HV.out HS2.out HL4.out HLL.out HLZ.out (by omega) (by omega) (by omega) k1 (by omega) (Nat.le_refl _) (by omega)
    go_wp2_with fail
    with_reducible refine HC.mono ?_
    rintro e w3 ⟨r, rfl, hown, hb3⟩
    have HO := Lib.hid (own_base hown HB2.out.size)
    have HB3 := Lib.hid (HB2.out.trans (hb3.mono HB2.out.size))
    clear HC hown hb3
    go_wp2_with fail
    go_ret2
    refine ⟨r, rfl, ?_, HB3.out⟩
    show w3.ownsRow _ _ _ _ (encL _ _ _ _).length ((encL _ _ _ _).map _)
    rw [encL_nat, applyL_length, ← HNN.out]
    exact HO.out

set_option maxRecDepth 100000 in
set_option maxHeartbeats 1000000 in
theorem refEncode_any (K M : Nat) (z : Int) (v : Value) (L : List ByteArray) (w : World) (k1 : 1 ≤ K) (k8 : K ≤ 8) (m6 : M ≤ 6) (z1 : 1 ≤ z) (z2 : z ≤ 120) (hN : Strs6 w v L) (hll : L.length = K) (hlz : ∀ s ∈ L, s.size = z.toNat) :
    Calls Try.prog 8 #[.agg #[.int .i64 (K : Int), .int .i64 (M : Int), .int .i64 z], v] w fun e w' => ∃ r, e = .returned r ∧ w'.ownsRow w.heap.size 9 1 r (K + M) ((encL K M z L).map Value.string) ∧ Below w.heap.size w w' := by
  obtain ⟨A, cap, rfl⟩ := hN.shape
  obtain ⟨o, ho⟩ : ∃ o, o = (Obj.cells #[.int .i64 (K : Int), .int .i64 (M : Int), .int .i64 z] 29) := ⟨_, rfl⟩
  have tA := Three.new w (.int .i64 (K : Int)) (.int .i64 (M : Int)) (.int .i64 z) 29
  have hbe := (Below.refl w.heap.size w).alloc (Nat.le_refl _) (.cells #[.int .i64 (K : Int), .int .i64 (M : Int), .int .i64 z] 29)
  rw [← ho] at tA hbe
  have HB := Lib.hid hbe
  have HS := Lib.hid (hN.below hbe)
  have HLL := Lib.hid hll
  have HLZ := Lib.hid hlz
  obtain ⟨a0, a1, a2, _, _, _⟩ := tA
  rw [ho] at a0 a1 a2
  clear hbe hN hll hlz
  go_enter Try.func8, Try.ntmps8
  go_wp2_with fail
  rw [← ho]
  clear a0 a1 a2 ho
  generalize w.alloc o = W0 at *
  refine (refGen_any K M z W0 k1 k8 m6).mono ?_
  rintro e w2 ⟨vr, rfl, hmr, hb2⟩
  obtain ⟨B4, h41, h42, rfl, hbk4, hl4⟩ := hmr
  obtain ⟨n, hn⟩ : ∃ n, n = K + M := ⟨_, rfl⟩
  have HNN := Lib.hid hn
  rw [← hn] at hbk4 hl4
  rw [← hn]
  have hn14 : n ≤ 14 := by omega
  have hn1 : 1 ≤ n := by omega
  clear hn
  have hbv := BytesV.of_blk (c := n * K) hbk4 h42
  rw [hl4] at hbv
  have HV := Lib.hid hbv
  have HL4 := Lib.hid hl4
  have HB2 := Lib.hid (HB.out.trans (hb2.mono HB.out.size))
  have HS2 := Lib.hid (HS.out.below hb2)
  clear hb2 hbk4 hl4 hbv
  have HC := refApply_any n K z.toNat (.slice (some ⟨B4, 0, none⟩) (n * K) (n * K)) (.slice A L.length cap) (genL n K) L w2 HV.out HS2.out HL4.out HLL.out HLZ.out (by omega) (by omega) (by omega) k1 (by omega)
  go_wp2_with fail
  with_reducible refine HC.mono ?_
  rintro e w3 ⟨r, rfl, hown, hb3⟩
  have HO := Lib.hid (own_base hown HB2.out.size)
  have HB3 := Lib.hid (HB2.out.trans (hb3.mono HB2.out.size))
  clear HC hown hb3
  go_wp2_with fail
  go_ret
  refine ⟨r, rfl, ?_, HB3.out⟩
  rw [encL_nat, ← HNN.out]
  exact HO.out
end Go.Proofs.Ytijcmdcjjcemfaa

/- Two lists of texts that are one. -/

namespace Go.Proofs.Ytijcmdcjjcemfaa
open Go.ChangeShapes Go.WideShapes Go.ChangeAt Go.RowKit Go.Joins
set_option linter.unusedVariables false
set_option linter.unusedSimpArgs false

set_option maxRecDepth 100000 in
set_option maxHeartbeats 1000000 in
theorem eqStrs6_yes (va vb : Value) (l : List ByteArray) (w : World) (ha : Strs6 w va l) (hb : Strs6 w vb l) (hm : l.length ≤ 9000000000000000000) :
    Calls Try.prog 15 #[va, vb] w fun e w' => e = .returned (.bool true) ∧ Below w.heap.size w w' := by
  have HA := Lib.hid ha
  have HB := Lib.hid hb
  obtain ⟨Aa, ka, rfl⟩ := ha.shape
  obtain ⟨Ab, kb, rfl⟩ := hb.shape
  clear ha hb
  go_enter Try.func15, Try.ntmps15
  go_wp2_with fail
  go_loopw [5] (fun i wr => ∃ k : Nat, i = .int .i64 k ∧ k ≤ l.length ∧ Below w.heap.size w wr) (fun i _ => l.length - (intOf i).toNat)
  case atStart => exact ⟨0, rfl, by omega, Below.refl _ _⟩
  case round =>
    obtain ⟨k, rfl, hk, hwr⟩ := hrel
    by_cases hlt : k < l.length
    · obtain ⟨ba, oa, rfl, _, a0⟩ := (HA.out.below hwr).at_ hlt
      obtain ⟨bb, ob, rfl, _, b0⟩ := (HB.out.below hwr).at_ hlt
      generalize l[k]'hlt = s at a0 b0
      go_wp2_with fail
      go_quiet (fail)
      all_goals
        go_wp2_with fail
        go_roundw
        case rel => exact ⟨k + 1, by go_num, by omega, below_drewN hwr _⟩
        case measure => simp [intOf]; omega
    · go_wp2_with fail
      go_ret
      exact ⟨rfl, hwr⟩
end Go.Proofs.Ytijcmdcjjcemfaa

/- silolaw4.num, wakes, CopyStrings, walked. -/

namespace Go.Proofs.Ytijcmdcjjcemfaa
open Go.ChangeShapes Go.WideShapes Go.ChangeAt Go.RowKit Go.Joins
set_option linter.unusedVariables false
set_option linter.unusedSimpArgs false

theorem wakes4_enc : encL 1 2 1 [⟨#[120]⟩] = [⟨#[120]⟩, ⟨#[120]⟩, ⟨#[120]⟩] := by decide +kernel

set_option maxRecDepth 100000 in
set_option maxHeartbeats 1000000 in
theorem copyStrs6_any (v : Value) (ss : List ByteArray) (w : World) (h : Strs6 w v ss) (hl : ss.length ≤ 6000) :
    Calls Try.prog 10 #[v] w fun e w' => ∃ r, e = .returned r ∧ w'.ownsRow w.heap.size 9 1 r ss.length (ss.map Value.string) ∧ Below w.heap.size w w' := by
  obtain ⟨i0, hi, hz0, hz1, hz2⟩ := info_parts infoStr6
  obtain ⟨p, cap, rfl⟩ := h.shape
  have HS := Lib.hid h
  clear h
  go_enter Try.func10, Try.ntmps10
  go_wp2_with fail
  go_loopw [3, 4] (fun l i wr => ∃ k : Nat, i = .int .i64 k ∧ k ≤ ss.length ∧ wr.ownsRow w.heap.size 9 1 l k ((ss.take k).map Value.string) ∧ Below w.heap.size w wr) (fun _ i _ => ss.length - (intOf i).toNat)
  case atStart => exact ⟨0, rfl, by omega, World.ownsRow_nil _ _ _ _, Below.refl _ _⟩
  case round =>
    obtain ⟨k, rfl, hk, hown, hwr⟩ := hrel
    by_cases hlt : k < ss.length
    · obtain ⟨b, off, rfl, hbl, hcell⟩ := (HS.out.below hwr).at_ hlt
      have HT : Hid (ss.take (k + 1) = ss.take k ++ [ss[k]'hlt]) := List.take_succ_eq_append_getElem hlt
      generalize ss[k]'hlt = s at *
      have j0 : (0 : Int) ≤ (k : Int) := by omega
      have j1 : (k : Int) < (ss.length : Int) := by omega
      go_wp2_with (first | (at_builtin; refine wpList_append_own _ rfl _ _ 23 rfl w.heap.size 9 i0 (.string ByteArray.empty) 1 16 Try.underlying23 hi hz0 hz1 hz2 rfl (by decide) _ _ _ rfl (hown.alloc _) ⟨wr.heap.size, 0, none⟩ 1 1 [.string s] rfl rfl ?c1 ?c2 ?c3 ?c4 ?c5 ?_) | go_in)
      case c1 => exact cell_one_new' _ _ _
      case c2 => intro u hu; simp at hu; subst hu; rfl
      case c3 => unfold maxLen; omega
      case c4 => omega
      case c5 => have := hwr.size; simp; omega
      all_goals
        intro v' w1 hown' hgrow _
        have hbx := append_below hwr hown hgrow
        clear hown hgrow hwr hcell
        go_wp2_with fail
        go_roundw
        case rel => exact ⟨k + 1, by go_num, by omega, by rw [HT.out, List.map_append, List.map_take]; exact hown', hbx⟩
        case measure => simp [intOf]; omega
    · have hke : k = ss.length := by omega
      rw [hke, List.take_length] at hown
      clear hke
      go_wp2_with fail
      all_goals
        go_ret
        exact ⟨_, rfl, hown, hwr⟩

/-- Lists of texts, as they lie. -/
def ListsIn (w : World) (v : Value) (LL : List (Value × List ByteArray)) : Prop := RowIs w v LL.length 1 (LL.map (·.1)) ∧ ∀ p ∈ LL, Strs6 w p.1 p.2 ∧ p.2.length ≤ 6000
theorem ListsIn.below {w w' : World} {v : Value} {LL : List (Value × List ByteArray)} (h : ListsIn w v LL) (hb : Below w.heap.size w w') : ListsIn w' v LL :=
  ⟨h.1.below hb, fun p hp => ⟨(h.2 p hp).1.below hb, (h.2 p hp).2⟩⟩
theorem ListsIn.shape {w : World} {v : Value} {LL : List (Value × List ByteArray)} (h : ListsIn w v LL) : ∃ A c, v = .slice A LL.length c := by
  obtain ⟨_, A, c, e, _⟩ := h.1
  exact ⟨A, c, e⟩
theorem ListsIn.at_ {w : World} {A : Option Addr} {c : Nat} {LL : List (Value × List ByteArray)} (h : ListsIn w (.slice A LL.length c) LL) {k : Nat} (hk : k < LL.length) :
    ∃ b o v l, A = some ⟨b, o, none⟩ ∧ w.cell? ⟨b, o + k, none⟩ = some v ∧ Strs6 w v l ∧ l.length ≤ 6000 := by
  obtain ⟨b, o, c', e, hlt, hc⟩ := RowIs.at_ h.1 hk
  cases e
  obtain ⟨u, h1, h2⟩ := hc 0 (by omega)
  simp [hk] at h1
  rw [Nat.mul_one, Nat.add_zero] at h2
  have hm := h.2 (LL[k]'hk) (List.getElem_mem hk)
  exact ⟨b, o, _, _, rfl, by rw [h2, ← h1], hm.1, hm.2⟩
theorem cell_two_new (w : World) (a b : Value) (t : TypeId) : ∀ j u, [a, b][j]? = some u → (w.alloc (.cells #[a, b] t)).cell? ((⟨w.heap.size, 0, none⟩ : Addr).add j) = some u := by
  intro j u hj
  match j, hj with
  | 0, hj => simp at hj; subst hj; simp [Addr.add]
  | 1, hj => simp at hj; subst hj; simp [Addr.add]
  | j + 2, hj => simp at hj
theorem infoStrs4 : (Try.prog.info? 23).map (fun i => (i.zero, i.size, i.bytes)) = some (some (.slice none 0 0), 1, 24) := by kernel_rfl
end Go.Proofs.Ytijcmdcjjcemfaa

/- Which rows are there, plainly; what is rebuilt of them. -/

namespace Go.Proofs.Ytijcmdcjjcemfaa
set_option linter.unusedVariables false
set_option linter.unusedSimpArgs false

/-- The numbers of the first K that are there, of so many. -/
def haveN (bs : List Bool) (K : Nat) : Nat → List Int
  | 0 => []
  | i + 1 => if bs.getD i false = true ∧ (haveN bs K i).length < K then haveN bs K i ++ [(i : Int)] else haveN bs K i
theorem haveN_le (bs : List Bool) (K : Nat) : ∀ i, (haveN bs K i).length ≤ K
  | 0 => by simp [haveN]
  | i + 1 => by
    rw [haveN]
    split
    · rename_i h; rw [List.length_append]; simp; omega
    · exact haveN_le bs K i
theorem haveN_lt (bs : List Bool) (K : Nat) : ∀ i, ∀ z ∈ haveN bs K i, 0 ≤ z ∧ z < (i : Int)
  | 0, z, h => by simp [haveN] at h
  | i + 1, z, h => by
    rw [haveN] at h
    split at h
    · rcases List.mem_append.1 h with h | h
      · have := haveN_lt bs K i z h; omega
      · simp at h; omega
    · have := haveN_lt bs K i z h; omega
theorem haveN_nodup (bs : List Bool) (K : Nat) : ∀ i, (haveN bs K i).Nodup
  | 0 => by simp [haveN]
  | i + 1 => by
    rw [haveN]
    split
    · rw [List.nodup_append]
      refine ⟨haveN_nodup bs K i, by simp, fun a ha b hb e => ?_⟩
      simp at hb
      have := haveN_lt bs K i a ha
      omega
    · exact haveN_nodup bs K i
theorem haveN_full {bs : List Bool} {K i : Nat} (h : (haveN bs K i).length = K) : ∀ j, haveN bs K (i + j) = haveN bs K i
  | 0 => rfl
  | j + 1 => by
    have e : i + (j + 1) = (i + j) + 1 := by omega
    rw [e, haveN, haveN_full h j, if_neg (by omega)]
theorem haveN_yes {bs : List Bool} {K i : Nat} (h1 : bs.getD i false = true) (h2 : (haveN bs K i).length < K) : haveN bs K (i + 1) = haveN bs K i ++ [(i : Int)] := by rw [haveN, if_pos ⟨h1, h2⟩]
theorem haveN_no {bs : List Bool} {K i : Nat} (h : bs.getD i false = false) : haveN bs K (i + 1) = haveN bs K i := by rw [haveN, if_neg (by rw [h]; simp)]
theorem haveN_stop {bs : List Bool} {K i : Nat} (h : ¬ (haveN bs K i).length < K) : haveN bs K (i + 1) = haveN bs K i := by rw [haveN, if_neg (fun x => h x.2)]
theorem haveN_there {bs : List Bool} {K : Nat} : ∀ i, ∀ z ∈ haveN bs K i, bs.getD z.toNat false = true
  | 0, z, h => by simp [haveN] at h
  | i + 1, z, h => by
    rw [haveN] at h
    split at h
    · rename_i hc
      rcases List.mem_append.1 h with h | h
      · exact haveN_there i z h
      · simp at h; subst h; simpa using hc.1
    · exact haveN_there i z h
theorem haveN_ok {bs : List Bool} {K n : Nat} (h : (haveN bs K n).length = K) : RowsOk n K (haveN bs K n) :=
  ⟨h, haveN_nodup bs K n, haveN_lt bs K n⟩
/-- The texts of these rows. -/
def givenL (zs : List Int) (l : List ByteArray) : List ByteArray := zs.map fun z => l.getD z.toNat ByteArray.empty
theorem givenL_len (zs : List Int) (l : List ByteArray) : (givenL zs l).length = zs.length := by simp [givenL]
theorem givenL_snoc (zs : List Int) (l : List ByteArray) (i : Nat) : givenL (zs ++ [(i : Int)]) l = givenL zs l ++ [l.getD i ByteArray.empty] := by simp [givenL]
theorem givenL_size {bs : List Bool} {l : List ByteArray} {K n Z : Nat} (h : ∀ i, bs.getD i false = true → (l.getD i ByteArray.empty).size = Z) : ∀ s ∈ givenL (haveN bs K n) l, s.size = Z := by
  intro s hs
  obtain ⟨z, hz, rfl⟩ := List.mem_map.1 hs
  exact h _ (haveN_there n z hz)
/-- The inverse of the chosen rows. -/
def overL (n K : Nat) (zs : List Int) : List Nat := invO K (pickL (genL n K) K zs)
theorem overL_len (n K : Nat) (zs : List Int) : (overL n K zs).length = K * K := invO_length _ _
theorem overL_lt {n K : Nat} {zs : List Int} (h : RowsOk n K zs) : ∀ x ∈ overL n K zs, x < 256 :=
  invO_all (by rw [rowL_length (h.fits (genL_len n K)), h.len]) (pick_all' (genL_lt n K))
/-- What is rebuilt. -/
def rebL (n K Z : Nat) (bs : List Bool) (l : List ByteArray) : List ByteArray :=
  if (haveN bs K n).length < K then [] else applyL (timesL (genL n K) (overL n K (haveN bs K n)) n K K) (givenL (haveN bs K n) l) n K Z
def rebE (n K : Nat) (bs : List Bool) : Int := if (haveN bs K n).length < K then 8 else 0
theorem rebL_yes {n K Z : Nat} {bs : List Bool} {l : List ByteArray} (h : (haveN bs K n).length = K) :
    rebL n K Z bs l = applyL (genL n K) (applyL (overL n K (haveN bs K n)) (givenL (haveN bs K n) l) K K Z) n K Z := by
  rw [rebL, if_neg (by omega), apply_times (genL_lt n K) (overL_lt (haveN_ok h))]
theorem rebL_len {n K Z : Nat} {bs : List Bool} {l : List ByteArray} : (rebL n K Z bs l).length ≤ n := by
  rw [rebL]
  split
  · simp
  · rw [applyL_length]; exact Nat.le_refl _
end Go.Proofs.Ytijcmdcjjcemfaa
