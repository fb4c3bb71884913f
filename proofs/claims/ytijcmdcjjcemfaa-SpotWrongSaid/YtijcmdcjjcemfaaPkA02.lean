/- lane.Into, walked: of 256 bytes and more; and of whatever number. -/
import Derived.Test.YtijcmdcjjcemfaaPkA01
import Derived.Test.YtijcmdcjjcemfaaPkA00
import Derived.WalkSpells
import Derived.WalkLawsBesides
import Derived.Handy
import Derived.Lib.Hide
import Derived.Laws.OwnMore
import Derived.Deep.Slices
import Derived.Deep.Fields
import Derived.StillTailTactics
import Derived.BigQuiet
import Derived.BigRegion
import Derived.OwnWalk
namespace Go.Proofs.Ytijcmdcjjcemfaa
open Go.ChangeShapes Go.WideShapes Go.ChangeAt Go.RowKit Go.Joins
set_option linter.unusedVariables false
set_option linter.unusedSimpArgs false

theorem zero_table : ∀ w, (zeroValue 111).run Try.prog w = .ok (.agg (cellsOf8 (List.replicate 256 0))) w := by
  intro w
  kernel_rfl
theorem BytesBlk.below {w w' : World} {B : Nat} {ns : List Nat} (h : BytesBlk w B ns) (hB : B < w.heap.size) (hb : Below w.heap.size w w') : BytesBlk w' B ns := fun i hi =>
  ⟨(h i hi).1, by rw [World.cell?_of_block (w := w) (hb.block B hB)]; exact (h i hi).2.1, by rw [World.frozen?_of_block (w := w) (hb.block B hB)]; exact (h i hi).2.2⟩
theorem BytesBlk.far {w : World} {B T k : Nat} {ns : List Nat} {v : Value} (h : BytesBlk w B ns) (hne : T ≠ B) : BytesBlk (w.setCell ⟨T, k, none⟩ v) B ns := fun i hi =>
  ⟨(h i hi).1, by rw [World.cell?_setCell_other _ _ _ _ (by simp [hne])]; exact (h i hi).2.1, by rw [World.frozen?_setCell]; exact (h i hi).2.2⟩
theorem bytesBlk_new (w : World) {ns ms : List Nat} (h : ms = ns) (T : TypeId) (hlt : ∀ n ∈ ns, n < 256) : BytesBlk (w.alloc (.cells (cellsOf8 ns) T)) w.heap.size ms := by
  subst h
  intro i hi
  have hg : ms.getD i 0 < 256 := getD_lt hlt hi
  refine ⟨hg, ?_, by simp [go_sem]⟩
  rw [cell_of_row _ _ _ _ _ _ (heap_alloc_new w _)]
  simp [cellsOf8, hi]
/-- The table as k products stand in it. -/
def tabL (c k : Nat) : List Nat := (List.range 256).map fun j => if j < k then Gf.mul j c else 0
theorem tabL_length (c k : Nat) : (tabL c k).length = 256 := by simp [tabL]
theorem tabL_zero (c : Nat) : tabL c 0 = List.replicate 256 0 := by
  apply List.ext_getElem
  · rw [tabL_length, List.length_replicate]
  · intro j h1 h2
    rw [List.getElem_replicate]
    simp only [tabL, List.getElem_map, Nat.not_lt_zero, if_false]
theorem tabL_succ (c k : Nat) : tabL c (k + 1) = (tabL c k).set k (Gf.mul k c) := by
  apply List.ext_getElem
  · simp [tabL]
  · intro j h1 h2
    by_cases e : k = j
    · subst e
      rw [List.getElem_set_self]
      simp only [tabL, List.getElem_map, List.getElem_range]
      rw [if_pos (by omega)]
    · rw [List.getElem_set_ne e]
      simp only [tabL, List.getElem_map, List.getElem_range, show j < k + 1 ↔ j < k by omega]
theorem tabL_get (c : Nat) {a : Nat} (h : a < 256) : (tabL c 256).getD a 0 = Gf.mul a c := by simp [tabL, List.getD, h]

set_option maxRecDepth 100000 in
set_option maxHeartbeats 1000000 in
theorem into_big (B off n cap : Nat) (ns : List Nat) (s : ByteArray) (c : Nat) (w : World) (h : BytesBlk w B ns) (hB : B < w.heap.size) (hoff : off + n ≤ ns.length) (hns : ns.length ≤ 100000) (hs : n ≤ s.size) (hs2 : s.size ≤ 100000) (hc : c < 256) (hc0 : 0 < c) (hn : 256 ≤ n) :
    Calls Try.prog 59 #[.slice (some ⟨B, off, none⟩) n cap, .string s, .int .u8 (c : Int)] w fun e w' => e = .returned (.tuple #[]) ∧ BytesBlk w' B (intoL s c off n ns) ∧ Kept (fun k => k = B) w w' := by
  have HD0 := Lib.hid h
  have hcz : ((c : Int) == 0) = false := beq_eq_false_iff_ne.2 (by omega)
  have hnd : decide ((n : Int) < 256) = false := by simp; omega
  clear h
  have hal := zero_table
  obtain ⟨C, hC⟩ : ∃ C, C = cellsOf8 (List.replicate 256 0) := ⟨_, rfl⟩
  rw [← hC] at hal
  have HCC := Lib.hid hC
  clear hC
  go_enter Try.func59, Try.ntmps59
  go_wp2_with fail
  have HT0 : Hid (BytesBlk (w.alloc (.cells C 111)) w.heap.size (tabL c 0)) := by rw [HCC.out, tabL_zero]; exact bytesBlk_new w (ns := List.replicate 256 0) rfl _ (by simp)
  have HK0 : Hid (Kept (fun k => k = B) w (w.alloc (.cells C 111))) := Lib.hid ((Kept.refl _ _).alloc _)
  have HD1 : Hid (BytesBlk (w.alloc (.cells C 111)) B ns) := Lib.hid (HD0.out.below hB ((Below.refl _ _).alloc (Nat.le_refl _) _))
  clear hal HCC HD0
  generalize w.alloc (.cells C 111) = W1 at *
  go_loopw [32] (fun i wr => ∃ k : Nat, i = .int .i64 k ∧ k ≤ 256 ∧ Hid (BytesBlk wr w.heap.size (tabL c k)) ∧ Hid (BytesBlk wr B ns) ∧ Hid (Kept (fun k => k = B) w wr)) (fun i _ => 256 - (intOf i).toNat)
  case atStart => exact ⟨0, rfl, by omega, HT0, HD1, HK0⟩
  case round =>
    clear HT0 HD1 HK0
    obtain ⟨k, rfl, hk, HT, HD, HK⟩ := hrel
    by_cases hlt : k < 256
    · obtain ⟨_, c2, c3⟩ := HT.out k (by rw [tabL_length]; exact hlt)
      generalize (tabL c k).getD k 0 = old at c2
      obtain ⟨g, hg⟩ : ∃ g, Gf.mul k c = g := ⟨_, rfl⟩
      have hg256 : g < 256 := by rw [← hg]; exact Gf.mul_lt c hlt
      have HT1 : Hid (BytesBlk (wr.setCell ⟨w.heap.size, k, none⟩ (.int .u8 (g : Int))) w.heap.size (tabL c (k + 1))) := by
        rw [Hid, tabL_succ, hg]; exact HT.out.next hg256
      have HD1 : Hid (BytesBlk (wr.setCell ⟨w.heap.size, k, none⟩ (.int .u8 (g : Int))) B ns) := Lib.hid (HD.out.far (by omega))
      have HK1 : Hid (Kept (fun k => k = B) w (wr.setCell ⟨w.heap.size, k, none⟩ (.int .u8 (g : Int)))) := Lib.hid (HK.out.setCell (d := ⟨w.heap.size, k, none⟩) (fun h => absurd h (Nat.lt_irrefl _)) _)
      have HG := Lib.hid hg
      have ew : IntKind.u8.wrap (k : Int) = (k : Int) := IntWalk.u8_in _ (by omega)
      have em : (k : Int) % 256 = (k : Int) := by omega
      have i0 : (0 : Int) ≤ (k : Int) := by omega
      clear hg HT HD HK
      go_wp2_with (first | (go_at_call 78; refine (fieldMul_nat _ _ _ _ (by omega) (by omega) HG.out).mono ?_; rintro e w' ⟨rfl, rfl⟩))
      go_roundw
      case rel => exact ⟨k + 1, by go_num, by omega, HT1, HD1, HK1⟩
      case measure => simp [intOf]; omega
    · have hke : k = 256 := by omega
      have H1 := HT.out
      rw [hke] at H1
      have HT1 := Lib.hid H1
      clear H1 HT hke
      have hTB : w.heap.size ≠ B := by omega
      obtain ⟨W2, rfl⟩ : ∃ W2 : World, W2 = wr := ⟨_, rfl⟩
      generalize hTT : w.heap.size = T at *
      go_wp2_with fail
      go_loopw [44] (fun i wx => ∃ k : Nat, i = .int .i64 k ∧ k ≤ n ∧ Hid (BytesBlk wx T (tabL c 256)) ∧ Hid (BytesBlk wx B (intoL s c off k ns)) ∧ Hid (Kept (fun k => k = B) w wx)) (fun i _ => n - (intOf i).toNat)
      case atStart => exact ⟨0, rfl, by omega, HT1, HD, HK⟩
      case round =>
        clear HT1 HD HK
        obtain ⟨k, rfl, hk, HT, HD, HK⟩ := hrel
        by_cases hlt : k < n
        · have ha : k < s.size := by omega
          obtain ⟨a, hca, ha2, ha256⟩ : ∃ a : Nat, (∀ h : k < s.size, (s[k]'h).toNat = a) ∧ byN s k = a ∧ a < 256 := ⟨byN s k, fun h => (byN_eq h).symm, rfl, byN_lt _ _⟩
          obtain ⟨c1, c2, c3⟩ := HD.out (off + k) (by rw [intoL_length]; omega)
          rw [intoL_far s c off k ns (off + k) (by omega)] at c1 c2
          obtain ⟨d1, d2, _⟩ := HT.out a (by rw [tabL_length]; exact ha256)
          rw [tabL_get c ha256] at d1 d2
          obtain ⟨g, hg⟩ : ∃ g, Gf.mul a c = g := ⟨_, rfl⟩
          rw [hg] at d1 d2
          obtain ⟨x, hx⟩ : ∃ x, ns.getD (off + k) 0 = x := ⟨_, rfl⟩
          rw [hx] at c1 c2
          have hxg := bits_xor_u8 c1 d1
          obtain ⟨z, hz⟩ : ∃ z, z = x ^^^ g := ⟨_, rfl⟩
          have hz256 : z < 256 := by rw [hz]; exact Nat.xor_lt_two_pow (n := 8) c1 d1
          have HD1 : Hid (BytesBlk (wr.setCell ⟨B, off + k, none⟩ (.int .u8 (z : Int))) B (intoL s c off (k + 1) ns)) := by
            rw [Hid, intoL_succ, ha2, hx, hg, ← hz]; exact HD.out.next hz256
          have HT2 : Hid (BytesBlk (wr.setCell ⟨B, off + k, none⟩ (.int .u8 (z : Int))) T (tabL c 256)) := Lib.hid (HT.out.far (Ne.symm hTB))
          have HKK : Hid (Kept (fun k => k = B) w (wr.setCell ⟨B, off + k, none⟩ (.int .u8 (z : Int)))) := Lib.hid (HK.out.setCell (d := ⟨B, off + k, none⟩) (fun _ => rfl) _)
          rw [← hz] at hxg
          have i0 : (0 : Int) ≤ (k : Int) := by omega
          have i1 : (k : Int) < (n : Int) := by omega
          have i2 : (k : Int) < (s.size : Int) := by omega
          have i3 : (0 : Int) ≤ (a : Int) := by omega
          have i4 : (a : Int) < 256 := by omega
          clear hx hz hg ha2 HK HD HT
          go_upto_region 16 with (fail)
          go_still_tail 11, (by kernel_rfl)
          change wpList _ _ _ _ _ (World.drew _)
          go_wp2_with fail
          go_roundw
          case rel => exact ⟨k + 1, by go_num, by omega, HT2, HD1, Lib.hid (Kept.drew HKK.out)⟩
          case measure => simp [intOf]; omega
        · have hke : k = n := by omega
          have H1 := HD.out
          rw [hke] at H1
          have HD1 := Lib.hid H1
          clear hke H1
          go_wp2_with fail
          all_goals
            (try simp only [Exit.inBlock, Exit.then])
            first | refine bodyPost_ret (results_none rfl _ _ _) rfl ?_ | refine bodyPost_end (results_none rfl _ _ _) rfl ?_
            exact ⟨rfl, HD1.out, HK.out⟩

set_option maxRecDepth 100000 in
set_option maxHeartbeats 400000 in
theorem into_none (B off n cap : Nat) (s : ByteArray) (w : World) :
    Calls Try.prog 59 #[.slice (some ⟨B, off, none⟩) n cap, .string s, .int .u8 0] w fun e w' => e = .returned (.tuple #[]) ∧ w = w' := by
  go_enter Try.func59, Try.ntmps59
  go_wp2_with fail
  (try simp only [Exit.inBlock, Exit.then])
  first | refine bodyPost_ret (results_none rfl _ _ _) rfl ?_ | refine bodyPost_end (results_none rfl _ _ _) rfl ?_
  exact ⟨rfl, rfl⟩

/-- lane.Into, of whatever bytes. -/
theorem into_any (B off n cap : Nat) (ns : List Nat) (s : ByteArray) (c : Nat) (w : World) (h : BytesBlk w B ns) (hB : B < w.heap.size) (hoff : off + n ≤ ns.length) (hns : ns.length ≤ 100000) (hs : n ≤ s.size) (hs2 : s.size ≤ 100000) (hc : c < 256) :
    Calls Try.prog 59 #[.slice (some ⟨B, off, none⟩) n cap, .string s, .int .u8 (c : Int)] w fun e w' => e = .returned (.tuple #[]) ∧ BytesBlk w' B (intoL s c off n ns) ∧ Kept (fun k => k = B) w w' := by
  by_cases hc0 : 0 < c
  · by_cases hn : n < 256
    · exact into_small B off n cap ns s c w h hB hoff hns hs hs2 hc hc0 hn
    · exact into_big B off n cap ns s c w h hB hoff hns hs hs2 hc hc0 (by omega)
  · have e : c = 0 := by omega
    subst e
    refine (into_none B off n cap s w).mono fun e w' ⟨he, hw⟩ => ?_
    subst hw
    exact ⟨he, by rw [intoL_none]; exact h, Kept.refl _ _⟩
end Go.Proofs.Ytijcmdcjjcemfaa

/- Lanes scaled and added: what the page says, plainly; the page's way, walked. -/

namespace Go.Proofs.Ytijcmdcjjcemfaa
open Go.ChangeShapes Go.WideShapes Go.ChangeAt Go.RowKit Go.Joins
set_option linter.unusedVariables false
set_option linter.unusedSimpArgs false

/-- A row of which k were done. -/
def partL (n : Nat) (f g : Nat → Nat) (k : Nat) : List Nat := (List.range n).map fun j => if j < k then f j else g j
theorem partL_length (n : Nat) (f g : Nat → Nat) (k : Nat) : (partL n f g k).length = n := by simp [partL]
theorem partL_zero (n : Nat) (f g : Nat → Nat) : partL n f g 0 = (List.range n).map g := by
  unfold partL
  apply List.map_congr_left
  intro j hj
  rw [if_neg (by omega)]
theorem partL_all (n : Nat) (f g : Nat → Nat) : partL n f g n = (List.range n).map f := by
  unfold partL
  apply List.map_congr_left
  intro j hj
  rw [if_pos (List.mem_range.1 hj)]
theorem partL_succ (n : Nat) (f g : Nat → Nat) (k : Nat) : partL n f g (k + 1) = (partL n f g k).set k (f k) := by
  apply List.ext_getElem
  · simp [partL]
  · intro j h1 h2
    by_cases e : k = j
    · subst e
      rw [List.getElem_set_self]
      simp only [partL, List.getElem_map, List.getElem_range]
      rw [if_pos (by omega)]
    · rw [List.getElem_set_ne e]
      simp only [partL, List.getElem_map, List.getElem_range, show j < k + 1 ↔ j < k by omega]
theorem partL_get (n : Nat) (f g : Nat → Nat) {k : Nat} (h : k < n) : (partL n f g k).getD k 0 = g k := by simp [partL, List.getD, h]
theorem bytesOf_range (s : ByteArray) : bytesOf s = (List.range s.size).map (byN s) := by
  apply List.ext_getElem
  · simp [bytesOf_length]
  · intro j h1 h2
    rw [List.getElem_map, List.getElem_range, ← bytesOf_get, ← List.getElem_eq_getD (h := h1)]

def scaledS (a : ByteArray) (c : Nat) : ByteArray := strOf8 ((List.range a.size).map fun i => Gf.mul (byN a i) c)
def addedS (a b : ByteArray) : ByteArray := strOf8 ((List.range a.size).map fun i => byN a i ^^^ byN b i)
def mixS (a b : ByteArray) (c : Nat) : ByteArray := strOf8 ((List.range a.size).map fun i => byN a i ^^^ Gf.mul (byN b i) c)
theorem scaledS_size (a : ByteArray) (c : Nat) : (scaledS a c).size = a.size := by rw [scaledS, strOf8_size]; simp
theorem addedS_size (a b : ByteArray) : (addedS a b).size = a.size := by rw [addedS, strOf8_size]; simp
theorem mixS_size (a b : ByteArray) (c : Nat) : (mixS a b c).size = a.size := by rw [mixS, strOf8_size]; simp
theorem byN_strOf8 {n : Nat} {f : Nat → Nat} {i : Nat} (hi : i < n) (hf : f i < 256) : byN (strOf8 ((List.range n).map f)) i = f i := by
  simp [byN, strOf8, List.getD, hi]
  omega
theorem mixS_scaled (a b : ByteArray) (c : Nat) (h : a.size ≤ b.size) : addedS a (scaledS b c) = mixS a b c := by
  unfold addedS mixS
  congr 1
  apply List.map_congr_left
  intro i hi
  have := List.mem_range.1 hi
  rw [scaledS, byN_strOf8 (f := fun i => Gf.mul (byN b i) c) (by omega) (Gf.mul_lt c (byN_lt b i))]
theorem intoL_mix (a b : ByteArray) (c : Nat) : strOf8 (intoL b c 0 a.size (bytesOf a)) = mixS a b c := by
  unfold mixS
  congr 1
  apply List.ext_getElem
  · simp [intoL_length, bytesOf_length]
  · intro j h1 h2
    have hj : j < a.size := by simpa using h2
    have := intoL_get b c 0 a.size (bytesOf a) j hj (by rw [bytesOf_length]; omega)
    rw [Nat.zero_add] at this
    rw [List.getElem_map, List.getElem_range, List.getElem_eq_getD (fallback := 0), this, bytesOf_get]

theorem refMul_nat (a b g : Nat) (w : World) (ha : a < 256) (hb : b < 256) (hg : Gf.mul a b = g) :
    Calls Try.prog 48 #[.int .u8 (a : Int), .int .u8 (b : Int)] w fun e w' => e = .returned (.int .u8 (g : Int)) ∧ w = w' := by
  have h := refMul_any (a : Int) (b : Int) w (by omega) (by omega) (by omega) (by omega)
  rw [gm_nat, hg] at h
  exact h

set_option maxRecDepth 100000 in
set_option maxHeartbeats 1000000 in
theorem refScaled_any (a : ByteArray) (c : Nat) (w : World) (ha : a.size ≤ 100000) (hc : c < 256) :
    Calls Try.prog 33 #[.string a, .int .u8 (c : Int)] w fun e w' => e = .returned (.string (scaledS a c)) ∧ Below w.heap.size w w' := by
  have hcv : ∀ w', (convert 9 35 (.string a)).run Try.prog w' = .ok (.slice (some ⟨w'.heap.size, 0, none⟩) a.size (grownCap w' a.size 0 5)) (Lib.bytesWorld w' 5 a) := fun w' => Lib.run_convert_string_bytes w' 9 35 5 a Try.underlying9 Try.underlying35 Try.underlying5
  go_enter Try.func33, Try.ntmps33
  go_wp2_with fail
  clear hcv
  have HD0 : Hid (BytesBlk (Lib.bytesWorld w 5 a) w.heap.size (partL a.size (fun i => Gf.mul (byN a i) c) (byN a) 0)) := by
    rw [Hid, partL_zero, ← bytesOf_range]; exact bytesBlk_of w _ a
  have HB0 := Lib.hid (bytesWorld_below w 5 a)
  generalize Lib.bytesWorld w 5 a = V at *
  generalize grownCap w a.size 0 5 = cp at *
  go_loopw [6] (fun i wr => ∃ k : Nat, i = .int .i64 k ∧ k ≤ a.size ∧ Hid (BytesBlk wr w.heap.size (partL a.size (fun i => Gf.mul (byN a i) c) (byN a) k)) ∧ Hid (Below w.heap.size w wr)) (fun i _ => a.size - (intOf i).toNat)
  case atStart => exact ⟨0, rfl, by omega, HD0, HB0⟩
  case round =>
    clear HD0 HB0
    obtain ⟨k, rfl, hk, HD, HB⟩ := hrel
    by_cases hlt : k < a.size
    · obtain ⟨c1, c2, c3⟩ := HD.out k (by rw [partL_length]; exact hlt)
      rw [partL_get _ _ _ hlt] at c1 c2
      obtain ⟨g, hg⟩ : ∃ g, Gf.mul (byN a k) c = g := ⟨_, rfl⟩
      have hg256 : g < 256 := by rw [← hg]; exact Gf.mul_lt c c1
      have HD1 : Hid (BytesBlk (wr.setCell ⟨w.heap.size, k, none⟩ (.int .u8 (g : Int))) w.heap.size (partL a.size (fun i => Gf.mul (byN a i) c) (byN a) (k + 1))) := by
        rw [Hid, partL_succ, hg]; exact HD.out.next hg256
      have HB1 := Lib.hid (HB.out.setCell (p := ⟨w.heap.size, k, none⟩) (Nat.le_refl _) (.int .u8 (g : Int)))
      have HG := Lib.hid hg
      clear hg
      generalize byN a k = x at c1 c2 HG
      have i0 : (0 : Int) ≤ (k : Int) := by omega
      have i1 : (k : Int) < (a.size : Int) := by omega
      go_wp2_with (first | (go_at_call 48; refine (refMul_nat _ _ _ _ (by omega) (by omega) HG.out).mono ?_; rintro e w' ⟨rfl, rfl⟩))
      go_roundw
      case rel => exact ⟨k + 1, by go_num, by omega, HD1, HB1⟩
      case measure => simp [intOf]; omega
    · have hke : k = a.size := by omega
      have hd2 := HD.out
      rw [hke] at hd2
      have hcv2 := convert_bytes (P := Try.prog) (w := wr) (b := w.heap.size) (off := 0) (cap := cp) (ns := partL a.size (fun i => Gf.mul (byN a i) c) (byN a) a.size) Try.underlying35 Try.underlying5 Try.underlying9 (BytesBlk.cells hd2)
      rw [partL_length, partL_all, show strOf8 ((List.range a.size).map fun i => Gf.mul (byN a i) c) = scaledS a c from rfl] at hcv2
      clear hke hd2
      go_wp2_with fail
      go_ret
      exact ⟨rfl, HB.out⟩
end Go.Proofs.Ytijcmdcjjcemfaa

/- Lanes added, the page's way, walked; lane.MulAdd. -/

namespace Go.Proofs.Ytijcmdcjjcemfaa
open Go.ChangeShapes Go.WideShapes Go.ChangeAt Go.RowKit Go.Joins
set_option linter.unusedVariables false
set_option linter.unusedSimpArgs false

set_option maxRecDepth 100000 in
set_option maxHeartbeats 1000000 in
theorem refAdded_any (a b : ByteArray) (w : World) (ha : a.size ≤ 100000) (hab : a.size ≤ b.size) (hb : b.size ≤ 100000) :
    Calls Try.prog 32 #[.string a, .string b] w fun e w' => e = .returned (.string (addedS a b)) ∧ Below w.heap.size w w' := by
  have hcv : ∀ w', (convert 9 35 (.string a)).run Try.prog w' = .ok (.slice (some ⟨w'.heap.size, 0, none⟩) a.size (grownCap w' a.size 0 5)) (Lib.bytesWorld w' 5 a) := fun w' => Lib.run_convert_string_bytes w' 9 35 5 a Try.underlying9 Try.underlying35 Try.underlying5
  go_enter Try.func32, Try.ntmps32
  go_wp2_with fail
  clear hcv
  have HD0 : Hid (BytesBlk (Lib.bytesWorld w 5 a) w.heap.size (partL a.size (fun i => byN a i ^^^ byN b i) (byN a) 0)) := by
    rw [Hid, partL_zero, ← bytesOf_range]; exact bytesBlk_of w _ a
  have HB0 := Lib.hid (bytesWorld_below w 5 a)
  generalize Lib.bytesWorld w 5 a = V at *
  generalize grownCap w a.size 0 5 = cp at *
  go_loopw [6] (fun i wr => ∃ k : Nat, i = .int .i64 k ∧ k ≤ a.size ∧ Hid (BytesBlk wr w.heap.size (partL a.size (fun i => byN a i ^^^ byN b i) (byN a) k)) ∧ Hid (Below w.heap.size w wr)) (fun i _ => a.size - (intOf i).toNat)
  case atStart => exact ⟨0, rfl, by omega, HD0, HB0⟩
  case round =>
    clear HD0 HB0
    obtain ⟨k, rfl, hk, HD, HB⟩ := hrel
    by_cases hlt : k < a.size
    · obtain ⟨c1, c2, c3⟩ := HD.out k (by rw [partL_length]; exact hlt)
      rw [partL_get _ _ _ hlt] at c1 c2
      obtain ⟨g, hg⟩ : ∃ g, byN a k ^^^ byN b k = g := ⟨_, rfl⟩
      have hg256 : g < 256 := by rw [← hg]; exact Nat.xor_lt_two_pow (n := 8) (byN_lt a k) (byN_lt b k)
      have HD1 : Hid (BytesBlk (wr.setCell ⟨w.heap.size, k, none⟩ (.int .u8 (g : Int))) w.heap.size (partL a.size (fun i => byN a i ^^^ byN b i) (byN a) (k + 1))) := by
        rw [Hid, partL_succ, hg]; exact HD.out.next hg256
      have HB1 := Lib.hid (HB.out.setCell (p := ⟨w.heap.size, k, none⟩) (Nat.le_refl _) (.int .u8 (g : Int)))
      obtain ⟨y, hcy, hy⟩ : ∃ y : Nat, (∀ h : k < b.size, (b[k]'h).toNat = y) ∧ byN b k = y := ⟨byN b k, fun h => (byN_eq h).symm, rfl⟩
      have hxg := bits_xor_u8 (byN_lt a k) (byN_lt b k)
      rw [hg, hy] at hxg
      generalize byN a k = x at c1 c2 hxg
      have i0 : (0 : Int) ≤ (k : Int) := by omega
      have i1 : (k : Int) < (a.size : Int) := by omega
      have i2 : (k : Int) < (b.size : Int) := by omega
      clear hg hy HD HB
      go_upto_region 5 with (fail)
      go_still_tail 11, (by kernel_rfl)
      change wpList _ _ _ _ _ (World.drew _)
      go_wp2_with fail
      go_roundw
      case rel => exact ⟨k + 1, by go_num, by omega, HD1, Lib.hid (Below.drew HB1.out)⟩
      case measure => simp [intOf]; omega
    · have hke : k = a.size := by omega
      have hd2 := HD.out
      rw [hke] at hd2
      have hcv2 := convert_bytes (P := Try.prog) (w := wr) (b := w.heap.size) (off := 0) (cap := cp) (ns := partL a.size (fun i => byN a i ^^^ byN b i) (byN a) a.size) Try.underlying35 Try.underlying5 Try.underlying9 (BytesBlk.cells hd2)
      rw [partL_length, partL_all, show strOf8 ((List.range a.size).map fun i => byN a i ^^^ byN b i) = addedS a b from rfl] at hcv2
      clear hke hd2
      go_wp2_with fail
      go_ret
      exact ⟨rfl, HB.out⟩
end Go.Proofs.Ytijcmdcjjcemfaa

/- Slices whose cells are known, of whatever element size, nil or not. -/

namespace Go.Proofs.Ytijcmdcjjcemfaa
open Go.ChangeShapes Go.WideShapes Go.ChangeAt Go.RowKit Go.Joins
open Go.Deep (open_slice oneCellFields hone_of)
set_option linter.unusedVariables false
set_option linter.unusedSimpArgs false

/-- The slice value v has n elements of 'size' cells each; its cells hold xs. -/
def RowIs (w : World) (v : Value) (n size : Nat) (xs : List Value) : Prop :=
  xs.length = n * size ∧ ∃ A c, v = .slice A n c ∧ (0 < n → ∃ b o, A = some ⟨b, o, none⟩ ∧ b < w.heap.size ∧ ∀ j u, xs[j]? = some u → w.cell? ⟨b, o + j, none⟩ = some u)

theorem RowIs.nil (w : World) (size c : Nat) (A : Option Addr) : RowIs w (.slice A 0 c) 0 size [] := ⟨by simp, A, c, rfl, fun h => absurd h (by omega)⟩
theorem RowIs.below {w w' : World} {v : Value} {n size : Nat} {xs : List Value} (h : RowIs w v n size xs) (hb : Below w.heap.size w w') : RowIs w' v n size xs := by
  obtain ⟨h1, A, c, h2, h3⟩ := h
  refine ⟨h1, A, c, h2, fun hn => ?_⟩
  obtain ⟨b, o, e, hlt, hc⟩ := h3 hn
  exact ⟨b, o, e, Nat.lt_of_lt_of_le hlt hb.size, fun j u hu => by rw [hb.cell (p := ⟨b, o + j, none⟩) hlt]; exact hc j u hu⟩
theorem RowIs.of_own {w : World} {base size n : Nat} {e : TypeId} {v : Value} {xs : List Value} (h : w.ownsRow base e size v n xs) : RowIs w v n size xs := by
  refine ⟨h.1, ?_⟩
  rcases h.2 with ⟨rfl, rfl⟩ | ⟨g, cap, cur, rfl, hbase, hheap, hn, hmax, hsz, htake⟩
  · exact ⟨none, 0, rfl, fun hn => absurd hn (by omega)⟩
  · refine ⟨_, _, rfl, fun hn => ⟨g, 0, rfl, (Array.getElem?_eq_some_iff.1 hheap).1, fun j u hu => ?_⟩⟩
    have hj : j < n * size := by rw [← h.1]; exact (List.getElem?_eq_some_iff.1 hu).1
    have := h.cellAt j hj
    rw [Nat.zero_add, this]; exact hu
/-- One element's cells. -/
theorem RowIs.at_ {w : World} {v : Value} {n size k : Nat} {xs : List Value} (h : RowIs w v n size xs) (hk : k < n) :
    ∃ b o c, v = .slice (some ⟨b, o, none⟩) n c ∧ b < w.heap.size ∧ ∀ j, j < size → ∃ u, xs[k * size + j]? = some u ∧ w.cell? ⟨b, o + (k * size + j), none⟩ = some u := by
  obtain ⟨h1, A, c, rfl, h3⟩ := h
  obtain ⟨b, o, rfl, hlt, hc⟩ := h3 (by omega)
  refine ⟨b, o, c, rfl, hlt, fun j hj => ?_⟩
  have hl : k * size + j < xs.length := by
    rw [h1]
    have : (k + 1) * size ≤ n * size := Nat.mul_le_mul_right size hk
    rw [Nat.add_mul, Nat.one_mul] at this; omega
  exact ⟨xs[k * size + j], List.getElem?_eq_getElem hl, hc _ _ (List.getElem?_eq_getElem hl)⟩

theorem append_below {w wr w1 : World} {o : Obj} {e : TypeId} {size n : Nat} {v : Value} {xs : List Value} (hwr : Below w.heap.size w wr) (hown : wr.ownsRow w.heap.size e size v n xs) (hgrow : (wr.alloc o).grownBy w1 v.ownBlock) : Below w.heap.size w w1 :=
  (hwr.alloc hwr.size o).grown hgrow (by have := hwr.size; simp; omega) (fun k hk => (hown.lt k hk).1)
theorem append_below_drew {w wr w1 : World} {o : Obj} {e : TypeId} {size n : Nat} {v : Value} {xs : List Value} (hwr : Below w.heap.size w wr) (hown : wr.ownsRow w.heap.size e size v n xs) (hgrow : (wr.alloc o).drew.grownBy w1 v.ownBlock) : Below w.heap.size w w1 :=
  ((hwr.alloc hwr.size o).trans (show Below w.heap.size _ (wr.alloc o).drew from ⟨rfl, rfl, rfl, Nat.le_refl _, fun _ _ => rfl⟩)).grown hgrow (by have := hwr.size; show w.heap.size ≤ (wr.alloc o).heap.size; simp; omega) (fun k hk => (hown.lt k hk).1)

theorem below_celllt {W W' : World} {b j : Nat} {v : Value} (hc : W.cell? ⟨b, j, none⟩ = some v) (hs : b < W.heap.size) (h : Below W.heap.size W W') : W'.cell? ⟨b, j, none⟩ = some v := by
  rw [h.cell (p := ⟨b, j, none⟩) hs]; exact hc

/-- A slice literal's cells. -/
theorem lit_row (w : World) (cs : Array Value) (T : TypeId) (n size c : Nat) (h : cs.size = n * size) : RowIs (w.alloc (.cells cs T)) (.slice (some ⟨w.heap.size, 0, none⟩) n c) n size cs.toList := by
  refine ⟨by simpa using h, _, _, rfl, fun _ => ⟨_, _, rfl, by simp, fun j u hj => ?_⟩⟩
  rw [Nat.zero_add, cell_of_row _ _ _ cs T (0, 0) (Array.getElem?_push_size)]
  simpa using hj

/-- Lists of threes, cell by cell. -/
abbrev T3 := Int × Int × Int
def cells3 (s : T3) : List Value := [.int .i64 s.1, .int .i64 s.2.1, .int .i64 s.2.2]
def rows3 (l : List T3) : List Value := l.flatMap cells3
theorem rows3_length (l : List T3) : (rows3 l).length = l.length * 3 := by
  induction l with
  | nil => rfl
  | cons a l ih => simp only [rows3, List.flatMap_cons, List.length_append, List.length_cons] at *; rw [ih]; simp [cells3]; omega
theorem rows3_get (l : List T3) : ∀ (k : Nat) (s : T3), l[k]? = some s → (rows3 l)[k * 3]? = some (.int .i64 s.1) ∧ (rows3 l)[k * 3 + 1]? = some (.int .i64 s.2.1) ∧ (rows3 l)[k * 3 + 2]? = some (.int .i64 s.2.2) := by
  induction l with
  | nil => intro k s h; simp at h
  | cons a l ih =>
    intro k s h
    cases k with
    | zero => simp at h; subst h; simp [rows3, cells3]
    | succ k =>
      have := ih k s (by simpa using h)
      have e : ∀ j, (rows3 (a :: l))[(k + 1) * 3 + j]? = (rows3 l)[k * 3 + j]? := fun j => by
        have : (k + 1) * 3 + j = k * 3 + j + 3 := by omega
        rw [this]; simp [rows3, cells3]
      refine ⟨?_, ?_, ?_⟩
      · have := e 0; simp only [Nat.add_zero] at this; rw [this]; exact (ih k s (by simpa using h)).1
      · rw [e 1]; exact (ih k s (by simpa using h)).2.1
      · rw [e 2]; exact (ih k s (by simpa using h)).2.2
theorem rows3_snoc (l : List T3) (s : T3) : rows3 (l ++ [s]) = rows3 l ++ cells3 s := by simp [rows3]

/-- A slice value of structs of three ints. -/
def ThreesIn (w : World) (v : Value) (l : List T3) : Prop := RowIs w v l.length 3 (rows3 l)
theorem ThreesIn.at_ {w : World} {v : Value} {l : List T3} (h : ThreesIn w v l) {k : Nat} (hk : k < l.length) :
    ∃ b o c, v = .slice (some ⟨b, o, none⟩) l.length c ∧ ∃ s, l[k]? = some s ∧ w.cell? ⟨b, o + k * 3, none⟩ = some (.int .i64 s.1) ∧ w.cell? ⟨b, o + k * 3 + 1, none⟩ = some (.int .i64 s.2.1) ∧ w.cell? ⟨b, o + k * 3 + 2, none⟩ = some (.int .i64 s.2.2) := by
  obtain ⟨b, o, c, rfl, hlt, hc⟩ := RowIs.at_ h hk
  obtain ⟨e1, e2, e3⟩ := rows3_get l k l[k] (List.getElem?_eq_getElem hk)
  refine ⟨b, o, c, rfl, l[k], List.getElem?_eq_getElem hk, ?_, ?_, ?_⟩
  · obtain ⟨u, h1, h2⟩ := hc 0 (by omega)
    rw [Nat.add_zero, e1] at h1; rw [Nat.add_zero] at h2; rw [h2, Option.some.inj h1]
  · obtain ⟨u, h1, h2⟩ := hc 1 (by omega)
    rw [e2] at h1; rw [Nat.add_assoc, h2, Option.some.inj h1]
  · obtain ⟨u, h1, h2⟩ := hc 2 (by omega)
    rw [e3] at h1; rw [Nat.add_assoc, h2, Option.some.inj h1]
end Go.Proofs.Ytijcmdcjjcemfaa

/- Texts that the code made, or that came in; copies of lists of texts. -/

namespace Go.Proofs.Ytijcmdcjjcemfaa
open Go.ChangeShapes Go.WideShapes Go.ChangeAt Go.RowKit Go.Joins
set_option linter.unusedVariables false
set_option linter.unusedSimpArgs false

theorem cell_one_new' (w : World) (a : Value) (t : TypeId) : ∀ j u, [a][j]? = some u → (w.alloc (.cells #[a] t)).cell? ((⟨w.heap.size, 0, none⟩ : Addr).add j) = some u := by
  intro j u hj
  rw [Go.WideShapes.add_plain, Nat.zero_add, cell_of_row _ _ _ _ _ _ (heap_alloc_new w _)]
  simpa using hj
theorem infoStr6 : (Try.prog.info? 9).map (fun i => (i.zero, i.size, i.bytes)) = some (some (.string ByteArray.empty), 1, 16) := by kernel_rfl
/-- A row that the code owns stands as long as nothing that was there is changed. -/
theorem own_below {w w' : World} {B k n : Nat} {e : TypeId} {v : Value} {xs : List Value} (h : w.ownsRow B e k v n xs) (hb : Below w.heap.size w w') : w'.ownsRow B e k v n xs := by
  refine ⟨h.1, ?_⟩
  rcases h.2 with h2 | ⟨g, cap, cur, h1, h2, h3, h4⟩
  · exact Or.inl h2
  · refine Or.inr ⟨g, cap, cur, h1, h2, ?_, h4⟩
    rw [hb.block g (Array.getElem?_eq_some_iff.1 h3).1]; exact h3
theorem own_shape {w : World} {B k n : Nat} {e : TypeId} {v : Value} {xs : List Value} (h : w.ownsRow B e k v n xs) : ∃ A c, v = .slice A n c := by
  rcases h.2 with ⟨rfl, rfl⟩ | ⟨g, cap, cur, rfl, _⟩
  · exact ⟨_, _, rfl⟩
  · exact ⟨_, _, rfl⟩
/-- Texts that the code made. -/
def Strs6 (w : World) (v : Value) (L : List ByteArray) : Prop := RowIs w v L.length 1 (L.map Value.string)
theorem Strs6.at_ {w : World} {A : Option Addr} {c : Nat} {L : List ByteArray} (h : Strs6 w (.slice A L.length c) L) {k : Nat} (hk : k < L.length) :
    ∃ b o, A = some ⟨b, o, none⟩ ∧ b < w.heap.size ∧ w.cell? ⟨b, o + k, none⟩ = some (.string (L[k]'hk)) := by
  obtain ⟨b, o, c', e, hlt, hc⟩ := RowIs.at_ h hk
  cases e
  refine ⟨b, o, rfl, hlt, ?_⟩
  obtain ⟨u, h1, h2⟩ := hc 0 (by omega)
  simp [hk] at h1
  rw [Nat.mul_one, Nat.add_zero] at h2
  rw [h2, h1]
theorem cell_three_new (w : World) (a b c : Value) (t : TypeId) : ∀ j u, [a, b, c][j]? = some u → (w.alloc (.cells #[a, b, c] t)).cell? ((⟨w.heap.size, 0, none⟩ : Addr).add j) = some u := by
  intro j u hj
  rw [Go.WideShapes.add_plain, Nat.zero_add, cell_of_row _ _ _ _ _ _ (heap_alloc_new w _)]
  simpa using hj
theorem take_snoc {L : List ByteArray} {k : Nat} {s : ByteArray} (h : k < L.length) (hs : s = L.getD k ByteArray.empty) : L.take (k + 1) = L.take k ++ [s] := by
  rw [hs, List.take_add_one]
  simp [List.getD, h]

theorem Strs6.below {w w' : World} {v : Value} {l : List ByteArray} (h : Strs6 w v l) (hb : Below w.heap.size w w') : Strs6 w' v l := RowIs.below h hb
theorem Strs6.shape {w : World} {v : Value} {l : List ByteArray} (h : Strs6 w v l) : ∃ A c, v = .slice A l.length c := by
  obtain ⟨_, A, c, rfl, _⟩ := h
  exact ⟨A, c, rfl⟩
/-- What came in, too. -/
theorem TextsIn.row {w : World} {v : Value} {ss : List ByteArray} (h : TextsIn w v ss) : Strs6 w v ss := by
  obtain ⟨p, cap, rfl, _, _, hS⟩ := h
  refine ⟨by simp, p, cap, rfl, fun hn => ?_⟩
  obtain ⟨b, off, hp, hlt, _⟩ := hS.2 0 hn
  subst hp
  refine ⟨b, off, rfl, hlt, fun j u hu => ?_⟩
  have hj : j < ss.length := by simpa using (List.getElem?_eq_some_iff.1 hu).1
  obtain ⟨b', off', hp', _, hc⟩ := hS.2 j hj
  cases hp'
  rw [hc, ← hu]
  simp [List.getD, hj]
theorem Strs6.take {w : World} {A : Option Addr} {c c' n : Nat} {L : List ByteArray} (h : Strs6 w (.slice A L.length c) L) (hn : n ≤ L.length) : Strs6 w (.slice A n c') (L.take n) := by
  obtain ⟨_, A', c1, e, hc⟩ := h
  cases e
  have hl : (L.take n).length = n := by simp; omega
  refine ⟨by simp, A, c', by rw [hl], fun h0 => ?_⟩
  rw [hl] at h0
  obtain ⟨b, o, rfl, hlt, hcell⟩ := hc (by omega)
  refine ⟨b, o, rfl, hlt, fun j u hu => hcell j u ?_⟩
  rw [List.getElem?_map, List.getElem?_take] at hu
  rw [List.getElem?_map]
  split at hu
  · exact hu
  · simp at hu

set_option maxRecDepth 100000 in
set_option maxHeartbeats 1000000 in
theorem copyStrs_any (v : Value) (ss : List ByteArray) (w : World) (h : TextsIn w v ss) (hl : ss.length ≤ 6000) :
    Calls Try.prog 10 #[v] w fun e w' => ∃ r, e = .returned r ∧ w'.ownsRow w.heap.size 9 1 r ss.length (ss.map Value.string) ∧ Below w.heap.size w w' := by
  obtain ⟨i0, hi, hz0, hz1, hz2⟩ := info_parts infoStr6
  obtain ⟨p, cap, rfl, h16, hs, hS⟩ := h
  have HS := Lib.hid hS
  have HB := Lib.hid hs
  clear hS hs
  go_enter Try.func10, Try.ntmps10
  go_wp2_with fail
  go_loopw [3, 4] (fun l i wr => ∃ k : Nat, i = .int .i64 k ∧ k ≤ ss.length ∧ wr.ownsRow w.heap.size 9 1 l k ((ss.take k).map Value.string) ∧ Below w.heap.size w wr) (fun _ i _ => ss.length - (intOf i).toNat)
  case atStart => exact ⟨0, rfl, by omega, World.ownsRow_nil _ _ _ _, Below.refl _ _⟩
  case round =>
    obtain ⟨k, rfl, hk, hown, hwr⟩ := hrel
    by_cases hlt : k < ss.length
    · obtain ⟨b, off, s, rfl, hsz, HE, hcell⟩ := text_at (HS.out.below hwr) HB.out hlt
      have HT := Lib.hid (take_snoc hlt HE.out)
      clear HE
      go_wp2_with (first | (at_builtin; refine wpList_append_own _ rfl _ _ 23 rfl w.heap.size 9 i0 (.string ByteArray.empty) 1 16 Try.underlying23 hi hz0 hz1 hz2 rfl (by decide) _ _ _ rfl (hown.alloc _) ⟨wr.heap.size, 0, none⟩ 1 1 [.string s] rfl rfl ?c1 ?c2 ?c3 ?c4 ?c5 ?_) | go_in)
      case c1 => exact cell_one_new' _ _ _
      case c2 => intro u hu; simp at hu; subst hu; rfl
      case c3 => unfold maxLen; omega
      case c4 => omega
      case c5 => have := hwr.size; simp; omega
      all_goals
        intro v' w1 hown' hgrow _
        have hbx := append_below hwr hown hgrow
        clear hown hgrow hwr hcell
        go_wp2_with fail
        go_roundw
        case rel => exact ⟨k + 1, by go_num, by omega, by rw [HT.out, List.map_append, List.map_take]; exact hown', hbx⟩
        case measure => simp [intOf]; omega
    · have hke : k = ss.length := by omega
      rw [hke, List.take_length] at hown
      clear hke
      go_wp2_with fail
      all_goals
        go_ret
        exact ⟨_, rfl, hown, hwr⟩
end Go.Proofs.Ytijcmdcjjcemfaa

/- Whether lanes may be: the code's way and the page's, walked. -/

namespace Go.Proofs.Ytijcmdcjjcemfaa
open Go.ChangeShapes Go.WideShapes Go.ChangeAt Go.RowKit Go.Joins
set_option linter.unusedVariables false
set_option linter.unusedSimpArgs false

/-- What is wrong with some lanes. -/
def mayGo (f : Nat) : List ByteArray → Int → Int
  | [], e => e
  | s :: r, e => if 8192 < s.size then 2 else mayGo f r (if s.size = f then e else 1)
def mayN (L : List ByteArray) : Int := mayGo (L.getD 0 ByteArray.empty).size L 0

end Go.Proofs.Ytijcmdcjjcemfaa
