/- Which digest letters are: the page's way, walked. -/
import Derived.Test.YtnpngkbcfkolnaaHexC
namespace Go.Proofs.Ytnpngkbcfkolnaa
open Go.ChangeShapes Go.WideShapes Go.ChangeAt Go.RowKit Go.Joins
set_option linter.unusedVariables false
set_option linter.unusedSimpArgs false
attribute [local go_sem ↓] Go.wp_at_zero Go.wp_at_succ

/-- Byte j as i letters were read. -/
def halfN (s : ByteArray) (i j : Nat) : Nat := if 2 * j + 1 < i then pairN s j else if 2 * j < i then vN (chN s (2 * j)) else 0
def halfL (s : ByteArray) (i : Nat) : List Nat := (List.range 32).map (halfN s i)
theorem halfL_length (s : ByteArray) (i : Nat) : (halfL s i).length = 32 := by simp [halfL]
theorem halfL_zero (s : ByteArray) : halfL s 0 = List.replicate 32 0 := by
  apply List.ext_getElem
  · simp [halfL]
  · intro j h1 h2
    rw [List.getElem_replicate]
    simp [halfL, halfN]
theorem halfL_all (s : ByteArray) : halfL s 64 = unhexL s 32 := by
  unfold halfL unhexL
  apply List.map_congr_left
  intro j hj
  rw [List.mem_range] at hj
  rw [halfN, if_pos (by omega)]
theorem halfL_get (s : ByteArray) {i q : Nat} (hq : q < 32) : (halfL s i).getD q 0 = halfN s i q := by simp [halfL, List.getD, hq]
theorem halfL_succ (s : ByteArray) {k q : Nat} (hq : k / 2 = q) : halfL s (k + 1) = (halfL s k).set q (halfN s (k + 1) q) := by
  apply List.ext_getElem
  · simp [halfL]
  · intro j h1 h2
    rw [List.getElem_set]
    simp only [halfL, List.getElem_map, List.getElem_range]
    split
    · rename_i e; rw [e]
    · unfold halfN
      simp only [show (2 * j + 1 < k + 1) ↔ (2 * j + 1 < k) by omega, show (2 * j < k + 1) ↔ (2 * j < k) by omega]
theorem half_step (s : ByteArray) {k q x c : Nat} (hq : k / 2 = q) (hx : halfN s k q = x) (hc : chN s k = c) : halfN s (k + 1) q = x * 16 + vN c := by
  unfold halfN at hx ⊢
  by_cases h : k = 2 * q
  · subst h
    rw [if_neg (by omega), if_pos (by omega)]
    rw [if_neg (by omega), if_neg (by omega)] at hx
    rw [← hx, hc]; simp
  · have h' : k = 2 * q + 1 := by omega
    subst h'
    rw [if_pos (by omega)]
    rw [if_neg (by omega), if_pos (by omega)] at hx
    rw [pairN, hx, hc]
theorem half_lt (s : ByteArray) {k q : Nat} (hq : k / 2 = q) (hg : ∀ i, i < k → goodN (chN s i) = true) : halfN s k q < 16 := by
  unfold halfN
  rw [if_neg (by omega)]
  split
  · exact vN_lt (hg _ (by omega))
  · omega
theorem or16u {x y : Nat} (hx : x < 16) (hy : y < 16) : bits .or .u8 ((x : Int) * 16) (y : Int) = ((x * 16 + y : Nat) : Int) := by
  have e := bits_or_k .u8 (a := x * 16) (b := y) (by show _ < 2 ^ 8; omega) (by show _ < 2 ^ 8; omega)
  have h2 : x * 16 ||| y = x * 16 + y := by
    have := Nat.shiftLeft_add_eq_or_of_lt (b := y) (i := 4) hy x
    rw [Nat.shiftLeft_eq] at this
    exact this.symm
  rw [h2, IntWalk.u8_in _ (by omega)] at e
  rw [← e]; simp
theorem half_next {s : ByteArray} {wr : World} {Bb k q x z c : Nat} (hk : k < 64) (hgood : goodN (chN s k) = true) (hD : BytesBlk wr Bb (halfL s k)) (hq : k / 2 = q) (hx : halfN s k q = x) (hz : z = x * 16 + vN (chN s k)) (hzz : z < 256) :
    Hid (BytesBlk (wr.setCell ⟨Bb, q, none⟩ (.int .u8 (z : Int))) Bb (halfL s (k + 1))) := by
  rw [Hid, halfL_succ s hq, half_step s hq hx rfl, ← hz]
  exact hD.next hzz

set_option maxRecDepth 100000 in
set_option maxHeartbeats 2000000 in
theorem refUnhex_any (s : ByteArray) (w : World) (hs : s.size ≤ 1000000) :
    Calls Try.prog 24 #[.string s] w fun e w' => e = .returned (.tuple #[.string (takenS s), .bool (okB s)]) ∧ Below w.heap.size w w' := by
  have hmk : ∀ w, (Instr.makeSlice 26 (.int .i64 32) (.int .i64 32)).run Try.prog w = .ok (.slice (some ⟨w.heap.size, 0, none⟩) 32 32) (w.alloc (.cells (cellsOf8 (List.replicate 32 0)) 5)) := hmk8 (n := 32) (by omega)
  obtain ⟨C, hC⟩ : ∃ C, C = cellsOf8 (List.replicate 32 0) := ⟨_, rfl⟩
  rw [← hC] at hmk
  have HCC := Lib.hid hC
  clear hC
  by_cases h64 : s.size = 64
  · have hne1 : ((s.size : Int) != 64) = false := by rw [h64]; rfl
    have hne2 : ((s.size : Int) == 64) = true := by rw [h64]; rfl
    have hs1 : 64 ≤ s.size := by omega
    have hs2 : s.size ≤ 64 := by omega
    have H64 := Lib.hid h64
    clear h64
    go_enter Try.func24, Try.ntmps24
    go_wp2_with fail
    have HB0 := Lib.hid ((Below.refl w.heap.size w).alloc (Nat.le_refl _) (.cells C 5))
    have HD0 : Hid (BytesBlk (w.alloc (.cells C 5)) w.heap.size (halfL s 0)) := by rw [HCC.out, halfL_zero]; exact bytesBlk_new w (ns := List.replicate 32 0) rfl _ (by simp)
    go_loopw [5] (fun i wr => ∃ k : Nat, i = .int .i64 (k : Int) ∧ k ≤ 64 ∧ Hid (BytesBlk wr w.heap.size (halfL s k)) ∧ Hid (∀ i, i < k → goodN (chN s i) = true) ∧ Hid (Below w.heap.size w wr)) (fun i _ => 64 - (intOf i).toNat)
    case atStart => exact ⟨0, rfl, by omega, HD0, fun i hi => absurd hi (by omega), HB0⟩
    case round =>
      clear HD0 HB0
      obtain ⟨k, rfl, hk, HD, HG, HB⟩ := hrel
      by_cases hlt : k < 64
      · have hk64 := hlt
        have ha : k < s.size := by omega
        obtain ⟨c, hca, hc2, hc256⟩ : ∃ a : Nat, (∀ h : k < s.size, (s[k]'h).toNat = a) ∧ chN s k = a ∧ a < 256 := ⟨chN s k, fun h => (chN_eq h).symm, rfl, chN_lt _ _⟩
        have HC := Lib.hid hc2
        obtain ⟨q, hq⟩ : ∃ q : Nat, k / 2 = q := ⟨_, rfl⟩
        obtain ⟨x, hxh⟩ : ∃ x, halfN s k q = x := ⟨_, rfl⟩
        have hx16 : x < 16 := by rw [← hxh]; exact half_lt s hq HG.out
        obtain ⟨_, c2, c3⟩ := HD.out q (by rw [halfL_length]; omega)
        rw [halfL_get s (by omega), hxh] at c2
        have i0 : (0 : Int) ≤ (k : Int) := by omega
        have i1 : (k : Int) < (s.size : Int) := by omega
        have i2 : (0 : Int) ≤ (q : Int) := by omega
        have i3 : (q : Int) < 32 := by omega
        have e1 : (k : Int) / 2 = (q : Int) := by omega
        clear hc2
        by_cases hA : 48 ≤ c ∧ c ≤ 57
        · have hg : goodN c = true := by simp [goodN]; omega
          have d1 : decide (48 ≤ (c : Int)) = true := by simp; omega
          have d2 : decide ((c : Int) ≤ 57) = true := by simp; omega
          obtain ⟨y, hy⟩ : ∃ y, y = vN c := ⟨_, rfl⟩
          have hy16 : y < 16 := by rw [hy]; exact vN_lt hg
          have hyc : c = y + 48 := by rw [hy, vN]; split <;> omega
          obtain ⟨z, hz⟩ : ∃ z, z = x * 16 + y := ⟨_, rfl⟩
          have hzz : z < 256 := by omega
          have eo := or16u hx16 hy16
          rw [← hz] at eo
          have HN := (half_next (s := s) (k := k) (z := z) (c := c) hk64 (by rw [HC.out]; exact hg) HD.out hq hxh (by rw [HC.out, ← hy]; exact hz) hzz)
          have HG2 : Hid (∀ i, i < k + 1 → goodN (chN s i) = true) := fun i hi => by
            by_cases h1 : i < k
            · exact HG.out i h1
            · rw [show i = k by omega, HC.out]; exact hg
          clear hg hy hz HG hxh hq
          have e48 : IntKind.u8.wrap ((c : Int) - 48) = (y : Int) := by rw [IntWalk.u8_in _ (by omega)]; omega
          have e48' : (c : Int) - 48 = (y : Int) := by omega
          clear hyc hA
          go_wp2_with fail
          go_roundw
          case rel => exact ⟨k + 1, by go_num, by omega, by first | exact HN | (rw [show (y : Int) % 256 = (y : Int) by omega, eo]; exact HN), HG2, Lib.hid (HB.out.setCell (p := ⟨w.heap.size, q, none⟩) (Nat.le_refl _) _)⟩
          case measure => simp [intOf]; omega
        by_cases hB : 97 ≤ c ∧ c ≤ 102
        · have hg : goodN c = true := by simp [goodN]; omega
          have d1 : decide (97 ≤ (c : Int)) = true := by simp; omega
          have d2 : decide ((c : Int) ≤ 102) = true := by simp; omega
          have d3 : decide (48 ≤ (c : Int)) = true := by simp; omega
          have d4 : decide ((c : Int) ≤ 57) = false := by simp; omega
          obtain ⟨y, hy⟩ : ∃ y, y = vN c := ⟨_, rfl⟩
          have hy16 : y < 16 := by rw [hy]; exact vN_lt hg
          have hyc : c = y + 87 := by rw [hy, vN]; split <;> omega
          obtain ⟨z, hz⟩ : ∃ z, z = x * 16 + y := ⟨_, rfl⟩
          have hzz : z < 256 := by omega
          have eo := or16u hx16 hy16
          rw [← hz] at eo
          have HN := (half_next (s := s) (k := k) (z := z) (c := c) hk64 (by rw [HC.out]; exact hg) HD.out hq hxh (by rw [HC.out, ← hy]; exact hz) hzz)
          have HG2 : Hid (∀ i, i < k + 1 → goodN (chN s i) = true) := fun i hi => by
            by_cases h1 : i < k
            · exact HG.out i h1
            · rw [show i = k by omega, HC.out]; exact hg
          clear hg hy hz HG hxh hq
          have e97 : IntKind.u8.wrap ((c : Int) - 97 + 10) = (y : Int) := by rw [IntWalk.u8_in _ (by omega)]; omega
          have e97' : (c : Int) - 97 + 10 = (y : Int) := by omega
          clear hyc hA hB
          go_wp2_with fail
          go_roundw
          case rel => exact ⟨k + 1, by go_num, by omega, by first | exact HN | (rw [show (y : Int) % 256 = (y : Int) by omega, eo]; exact HN), HG2, Lib.hid (HB.out.setCell (p := ⟨w.heap.size, q, none⟩) (Nat.le_refl _) _)⟩
          case measure => simp [intOf]; omega
        · have hg : goodN c = false := by simp [goodN]; omega
          clear hxh hq
          have hbad := okB_bad (s := s) (i := k) hk64 (by rw [HC.out]; exact hg)
          obtain ⟨t1, t2⟩ := taken_no hbad
          have T1 := Lib.hid t1
          have T2 := Lib.hid hbad
          clear hg hbad t1 t2
          go_wp2_with fail
          all_goals
            go_ret2
            exact ⟨by rw [T1.out, T2.out]; rfl, HB.out⟩
      · have hke : k = 64 := by omega
        have hd2 := HD.out
        rw [hke, halfL_all] at hd2
        have hok := okB_good (s := s) H64.out (fun i hi => HG.out i (by omega))
        obtain ⟨t1, t2⟩ := taken_yes hok
        have hcv := convert_bytes (P := Try.prog) (w := wr) (b := w.heap.size) (off := 0) (cap := 32) (ns := unhexL s 32) Try.underlying26 Try.underlying5 Try.underlying9 (BytesBlk.cells hd2)
        rw [unhexL_length] at hcv
        have T1 := Lib.hid t1
        have T2 := Lib.hid hok
        clear hke hd2 hok t1 t2
        go_wp2_with fail
        go_ret2
        exact ⟨by rw [T1.out, T2.out]; rfl, HB.out⟩
  · have hne1 : ((s.size : Int) != 64) = true := by rw [bne_iff_ne]; omega
    have hne2 : ((s.size : Int) == 64) = false := beq_eq_false_iff_ne.2 (by omega)
    obtain ⟨t1, t2⟩ := taken_no (okB_size h64)
    have T1 := Lib.hid t1
    have T2 := Lib.hid (okB_size h64)
    clear h64 t1 t2
    go_enter Try.func24, Try.ntmps24
    go_wp2_with fail
    go_ret2
    exact ⟨by rw [T1.out, T2.out]; rfl, Below.refl _ _⟩
end Go.Proofs.Ytnpngkbcfkolnaa
