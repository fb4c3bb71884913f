/- lane.Into, walked: of less than 256 bytes. -/
import Derived.Test.YtibinkppbdeofaaPk02LawMatrixTells
import Derived.BigQuiet
import Derived.BigRegion
import Derived.Deep.RegionHeld3
import Derived.StillTailTactics
import Derived.Deep.DeepCutAuto
import Derived.Deep.CutRange
import Derived.Deep.DrawnRows
namespace Go.Proofs.Ytibinkppbdeofaa
open Go.ChangeShapes Go.WideShapes Go.ChangeAt Go.RowKit Go.Joins
set_option linter.unusedVariables false
set_option linter.unusedSimpArgs false

theorem fieldMul_nat (a b g : Nat) (w : World) (ha : a < 256) (hb : b < 256) (hg : Gf.mul a b = g) :
    Calls Try.prog 68 #[.int .u8 (a : Int), .int .u8 (b : Int)] w fun e w' => e = .returned (.int .u8 (g : Int)) ∧ w = w' := by
  have h := fieldMul_any (a : Int) (b : Int) w (by omega) (by omega) (by omega) (by omega)
  rw [gm_nat, hg] at h
  exact h

set_option maxRecDepth 100000 in
set_option maxHeartbeats 1000000 in
theorem into_small (B off n cap : Nat) (ns : List Nat) (s : ByteArray) (c : Nat) (w : World) (h : BytesBlk w B ns) (hB : B < w.heap.size) (hoff : off + n ≤ ns.length) (hns : ns.length ≤ 100000) (hs : n ≤ s.size) (hs2 : s.size ≤ 100000) (hc : c < 256) (hc0 : 0 < c) (hn : n < 256) :
    Calls Try.prog 59 #[.slice (some ⟨B, off, none⟩) n cap, .string s, .int .u8 (c : Int)] w fun e w' => e = .returned (.tuple #[]) ∧ BytesBlk w' B (intoL s c off n ns) ∧ Kept (fun k => k = B) w w' := by
  have HD0 := Lib.hid h
  have hcz : ((c : Int) == 0) = false := beq_eq_false_iff_ne.2 (by omega)
  have hnd : decide ((n : Int) < 256) = true := by simp; omega
  clear h
  go_enter Try.func59, Try.ntmps59
  go_wp2_with fail
  go_loopw [17] (fun i wr => ∃ k : Nat, i = .int .i64 k ∧ k ≤ n ∧ Hid (BytesBlk wr B (intoL s c off k ns)) ∧ Hid (Kept (fun k => k = B) w wr)) (fun i _ => n - (intOf i).toNat)
  case atStart => exact ⟨0, rfl, by omega, HD0, Lib.hid (Kept.refl _ _)⟩
  case round =>
    clear HD0
    obtain ⟨k, rfl, hk, HD, HK⟩ := hrel
    by_cases hlt : k < n
    · have ha : k < s.size := by omega
      obtain ⟨a, hca, ha2, ha256⟩ : ∃ a : Nat, (∀ h : k < s.size, (s[k]'h).toNat = a) ∧ byN s k = a ∧ a < 256 := ⟨byN s k, fun h => (byN_eq h).symm, rfl, byN_lt _ _⟩
      obtain ⟨c1, c2, c3⟩ := HD.out (off + k) (by rw [intoL_length]; omega)
      rw [intoL_far s c off k ns (off + k) (by omega)] at c1 c2
      obtain ⟨g, hg⟩ : ∃ g, Gf.mul a c = g := ⟨_, rfl⟩
      have hg256 : g < 256 := by rw [← hg]; exact Gf.mul_lt c ha256
      obtain ⟨x, hx⟩ : ∃ x, ns.getD (off + k) 0 = x := ⟨_, rfl⟩
      rw [hx] at c1 c2
      have hxg := bits_xor_u8 c1 hg256
      obtain ⟨z, hz⟩ : ∃ z, z = x ^^^ g := ⟨_, rfl⟩
      have hz256 : z < 256 := by rw [hz]; exact Nat.xor_lt_two_pow (n := 8) c1 hg256
      have HD1 : Hid (BytesBlk (wr.setCell ⟨B, off + k, none⟩ (.int .u8 (z : Int))) B (intoL s c off (k + 1) ns)) := by
        rw [Hid, intoL_succ, ha2, hx, hg, ← hz]; exact HD.out.next hz256
      rw [← hz] at hxg
      have HG := Lib.hid hg
      have i0 : (0 : Int) ≤ (k : Int) := by omega
      have i1 : (k : Int) < (n : Int) := by omega
      have i2 : (k : Int) < (s.size : Int) := by omega
      have HKK : Hid (Kept (fun k => k = B) w (wr.setCell ⟨B, off + k, none⟩ (.int .u8 (z : Int)))) := Lib.hid (HK.out.setCell (d := ⟨B, off + k, none⟩) (fun _ => rfl) _)
      clear hx hz hg ha2
      go_upto_region 5 with (fail)
      clear HK HD
      go_region_with (first | (go_at_call 68; refine (fieldMul_nat _ _ _ _ (by omega) (by omega) HG.out).mono ?_; rintro e w' ⟨rfl, rfl⟩))
      all_goals
        clear c2 c3
        go_wp2_with fail
        go_roundw
        case rel => first | exact ⟨k + 1, by go_num, by omega, HD1, HKK⟩ | exact ⟨k + 1, by go_num, by omega, HD1, Lib.hid (Kept.drew HKK.out)⟩ | exact ⟨k + 1, by go_num, by omega, HD1, Lib.hid (Kept.drew (Kept.drew HKK.out))⟩
        case measure => simp [intOf]; omega
    · have hke : k = n := by omega
      have H1 := HD.out
      rw [hke] at H1
      have HD1 := Lib.hid H1
      clear hke H1
      go_wp2_with fail
      all_goals
        (try simp only [Exit.inBlock, Exit.then])
        first | refine bodyPost_ret (results_none rfl _ _ _) rfl ?_ | refine bodyPost_end (results_none rfl _ _ _) rfl ?_
        exact ⟨rfl, HD1.out, HK.out⟩
end Go.Proofs.Ytibinkppbdeofaa

/- lane.Into, walked: of 256 bytes and more; and of whatever number. -/

namespace Go.Proofs.Ytibinkppbdeofaa
open Go.ChangeShapes Go.WideShapes Go.ChangeAt Go.RowKit Go.Joins
set_option linter.unusedVariables false
set_option linter.unusedSimpArgs false

theorem zero_table : ∀ w, (zeroValue 90).run Try.prog w = .ok (.agg (cellsOf8 (List.replicate 256 0))) w := by
  intro w
  kernel_rfl
theorem BytesBlk.below {w w' : World} {B : Nat} {ns : List Nat} (h : BytesBlk w B ns) (hB : B < w.heap.size) (hb : Below w.heap.size w w') : BytesBlk w' B ns := fun i hi =>
  ⟨(h i hi).1, by rw [World.cell?_of_block (w := w) (hb.block B hB)]; exact (h i hi).2.1, by rw [World.frozen?_of_block (w := w) (hb.block B hB)]; exact (h i hi).2.2⟩
theorem BytesBlk.far {w : World} {B T k : Nat} {ns : List Nat} {v : Value} (h : BytesBlk w B ns) (hne : T ≠ B) : BytesBlk (w.setCell ⟨T, k, none⟩ v) B ns := fun i hi =>
  ⟨(h i hi).1, by rw [World.cell?_setCell_other _ _ _ _ (by simp [hne])]; exact (h i hi).2.1, by rw [World.frozen?_setCell]; exact (h i hi).2.2⟩
theorem bytesBlk_new (w : World) {ns ms : List Nat} (h : ms = ns) (T : TypeId) (hlt : ∀ n ∈ ns, n < 256) : BytesBlk (w.alloc (.cells (cellsOf8 ns) T)) w.heap.size ms := by
  subst h
  intro i hi
  have hg : ms.getD i 0 < 256 := getD_lt hlt hi
  refine ⟨hg, ?_, by simp [go_sem]⟩
  rw [cell_of_row _ _ _ _ _ _ (heap_alloc_new w _)]
  simp [cellsOf8, hi]
/-- The table as k products stand in it. -/
def tabL (c k : Nat) : List Nat := (List.range 256).map fun j => if j < k then Gf.mul j c else 0
theorem tabL_length (c k : Nat) : (tabL c k).length = 256 := by simp [tabL]
theorem tabL_zero (c : Nat) : tabL c 0 = List.replicate 256 0 := by
  apply List.ext_getElem
  · rw [tabL_length, List.length_replicate]
  · intro j h1 h2
    rw [List.getElem_replicate]
    simp only [tabL, List.getElem_map, Nat.not_lt_zero, if_false]
theorem tabL_succ (c k : Nat) : tabL c (k + 1) = (tabL c k).set k (Gf.mul k c) := by
  apply List.ext_getElem
  · simp [tabL]
  · intro j h1 h2
    by_cases e : k = j
    · subst e
      rw [List.getElem_set_self]
      simp only [tabL, List.getElem_map, List.getElem_range]
      rw [if_pos (by omega)]
    · rw [List.getElem_set_ne e]
      simp only [tabL, List.getElem_map, List.getElem_range, show j < k + 1 ↔ j < k by omega]
theorem tabL_get (c : Nat) {a : Nat} (h : a < 256) : (tabL c 256).getD a 0 = Gf.mul a c := by simp [tabL, List.getD, h]

set_option maxRecDepth 100000 in
set_option maxHeartbeats 1000000 in
theorem into_big (B off n cap : Nat) (ns : List Nat) (s : ByteArray) (c : Nat) (w : World) (h : BytesBlk w B ns) (hB : B < w.heap.size) (hoff : off + n ≤ ns.length) (hns : ns.length ≤ 100000) (hs : n ≤ s.size) (hs2 : s.size ≤ 100000) (hc : c < 256) (hc0 : 0 < c) (hn : 256 ≤ n) :
    Calls Try.prog 59 #[.slice (some ⟨B, off, none⟩) n cap, .string s, .int .u8 (c : Int)] w fun e w' => e = .returned (.tuple #[]) ∧ BytesBlk w' B (intoL s c off n ns) ∧ Kept (fun k => k = B) w w' := by
  have HD0 := Lib.hid h
  have hcz : ((c : Int) == 0) = false := beq_eq_false_iff_ne.2 (by omega)
  have hnd : decide ((n : Int) < 256) = false := by simp; omega
  clear h
  have hal := zero_table
  obtain ⟨C, hC⟩ : ∃ C, C = cellsOf8 (List.replicate 256 0) := ⟨_, rfl⟩
  rw [← hC] at hal
  have HCC := Lib.hid hC
  clear hC
  go_enter Try.func59, Try.ntmps59
  go_wp2_with fail
  have HT0 : Hid (BytesBlk (w.alloc (.cells C 90)) w.heap.size (tabL c 0)) := by rw [HCC.out, tabL_zero]; exact bytesBlk_new w (ns := List.replicate 256 0) rfl _ (by simp)
  have HK0 : Hid (Kept (fun k => k = B) w (w.alloc (.cells C 90))) := Lib.hid ((Kept.refl _ _).alloc _)
  have HD1 : Hid (BytesBlk (w.alloc (.cells C 90)) B ns) := Lib.hid (HD0.out.below hB ((Below.refl _ _).alloc (Nat.le_refl _) _))
  clear hal HCC HD0
  generalize w.alloc (.cells C 90) = W1 at *
  go_loopw [32] (fun i wr => ∃ k : Nat, i = .int .i64 k ∧ k ≤ 256 ∧ Hid (BytesBlk wr w.heap.size (tabL c k)) ∧ Hid (BytesBlk wr B ns) ∧ Hid (Kept (fun k => k = B) w wr)) (fun i _ => 256 - (intOf i).toNat)
  case atStart => exact ⟨0, rfl, by omega, HT0, HD1, HK0⟩
  case round =>
    clear HT0 HD1 HK0
    obtain ⟨k, rfl, hk, HT, HD, HK⟩ := hrel
    by_cases hlt : k < 256
    · obtain ⟨_, c2, c3⟩ := HT.out k (by rw [tabL_length]; exact hlt)
      generalize (tabL c k).getD k 0 = old at c2
      obtain ⟨g, hg⟩ : ∃ g, Gf.mul k c = g := ⟨_, rfl⟩
      have hg256 : g < 256 := by rw [← hg]; exact Gf.mul_lt c hlt
      have HT1 : Hid (BytesBlk (wr.setCell ⟨w.heap.size, k, none⟩ (.int .u8 (g : Int))) w.heap.size (tabL c (k + 1))) := by
        rw [Hid, tabL_succ, hg]; exact HT.out.next hg256
      have HD1 : Hid (BytesBlk (wr.setCell ⟨w.heap.size, k, none⟩ (.int .u8 (g : Int))) B ns) := Lib.hid (HD.out.far (by omega))
      have HK1 : Hid (Kept (fun k => k = B) w (wr.setCell ⟨w.heap.size, k, none⟩ (.int .u8 (g : Int)))) := Lib.hid (HK.out.setCell (d := ⟨w.heap.size, k, none⟩) (fun h => absurd h (Nat.lt_irrefl _)) _)
      have HG := Lib.hid hg
      have ew : IntKind.u8.wrap (k : Int) = (k : Int) := IntWalk.u8_in _ (by omega)
      have em : (k : Int) % 256 = (k : Int) := by omega
      have i0 : (0 : Int) ≤ (k : Int) := by omega
      clear hg HT HD HK
      go_wp2_with (first | (go_at_call 68; refine (fieldMul_nat _ _ _ _ (by omega) (by omega) HG.out).mono ?_; rintro e w' ⟨rfl, rfl⟩))
      go_roundw
      case rel => exact ⟨k + 1, by go_num, by omega, HT1, HD1, HK1⟩
      case measure => simp [intOf]; omega
    · have hke : k = 256 := by omega
      have H1 := HT.out
      rw [hke] at H1
      have HT1 := Lib.hid H1
      clear H1 HT hke
      have hTB : w.heap.size ≠ B := by omega
      obtain ⟨W2, rfl⟩ : ∃ W2 : World, W2 = wr := ⟨_, rfl⟩
      generalize hTT : w.heap.size = T at *
      go_wp2_with fail
      go_loopw [44] (fun i wx => ∃ k : Nat, i = .int .i64 k ∧ k ≤ n ∧ Hid (BytesBlk wx T (tabL c 256)) ∧ Hid (BytesBlk wx B (intoL s c off k ns)) ∧ Hid (Kept (fun k => k = B) w wx)) (fun i _ => n - (intOf i).toNat)
      case atStart => exact ⟨0, rfl, by omega, HT1, HD, HK⟩
      case round =>
        clear HT1 HD HK
        obtain ⟨k, rfl, hk, HT, HD, HK⟩ := hrel
        by_cases hlt : k < n
        · have ha : k < s.size := by omega
          obtain ⟨a, hca, ha2, ha256⟩ : ∃ a : Nat, (∀ h : k < s.size, (s[k]'h).toNat = a) ∧ byN s k = a ∧ a < 256 := ⟨byN s k, fun h => (byN_eq h).symm, rfl, byN_lt _ _⟩
          obtain ⟨c1, c2, c3⟩ := HD.out (off + k) (by rw [intoL_length]; omega)
          rw [intoL_far s c off k ns (off + k) (by omega)] at c1 c2
          obtain ⟨d1, d2, _⟩ := HT.out a (by rw [tabL_length]; exact ha256)
          rw [tabL_get c ha256] at d1 d2
          obtain ⟨g, hg⟩ : ∃ g, Gf.mul a c = g := ⟨_, rfl⟩
          rw [hg] at d1 d2
          obtain ⟨x, hx⟩ : ∃ x, ns.getD (off + k) 0 = x := ⟨_, rfl⟩
          rw [hx] at c1 c2
          have hxg := bits_xor_u8 c1 d1
          obtain ⟨z, hz⟩ : ∃ z, z = x ^^^ g := ⟨_, rfl⟩
          have hz256 : z < 256 := by rw [hz]; exact Nat.xor_lt_two_pow (n := 8) c1 d1
          have HD1 : Hid (BytesBlk (wr.setCell ⟨B, off + k, none⟩ (.int .u8 (z : Int))) B (intoL s c off (k + 1) ns)) := by
            rw [Hid, intoL_succ, ha2, hx, hg, ← hz]; exact HD.out.next hz256
          have HT2 : Hid (BytesBlk (wr.setCell ⟨B, off + k, none⟩ (.int .u8 (z : Int))) T (tabL c 256)) := Lib.hid (HT.out.far (Ne.symm hTB))
          have HKK : Hid (Kept (fun k => k = B) w (wr.setCell ⟨B, off + k, none⟩ (.int .u8 (z : Int)))) := Lib.hid (HK.out.setCell (d := ⟨B, off + k, none⟩) (fun _ => rfl) _)
          rw [← hz] at hxg
          have i0 : (0 : Int) ≤ (k : Int) := by omega
          have i1 : (k : Int) < (n : Int) := by omega
          have i2 : (k : Int) < (s.size : Int) := by omega
          have i3 : (0 : Int) ≤ (a : Int) := by omega
          have i4 : (a : Int) < 256 := by omega
          clear hx hz hg ha2 HK HD HT
          go_upto_region 16 with (fail)
          go_still_tail 11, (by kernel_rfl)
          change wpList _ _ _ _ _ (World.drew _)
          go_wp2_with fail
          go_roundw
          case rel => exact ⟨k + 1, by go_num, by omega, HT2, HD1, Lib.hid (Kept.drew HKK.out)⟩
          case measure => simp [intOf]; omega
        · have hke : k = n := by omega
          have H1 := HD.out
          rw [hke] at H1
          have HD1 := Lib.hid H1
          clear hke H1
          go_wp2_with fail
          all_goals
            (try simp only [Exit.inBlock, Exit.then])
            first | refine bodyPost_ret (results_none rfl _ _ _) rfl ?_ | refine bodyPost_end (results_none rfl _ _ _) rfl ?_
            exact ⟨rfl, HD1.out, HK.out⟩

set_option maxRecDepth 100000 in
set_option maxHeartbeats 400000 in
theorem into_none (B off n cap : Nat) (s : ByteArray) (w : World) :
    Calls Try.prog 59 #[.slice (some ⟨B, off, none⟩) n cap, .string s, .int .u8 0] w fun e w' => e = .returned (.tuple #[]) ∧ w = w' := by
  go_enter Try.func59, Try.ntmps59
  go_wp2_with fail
  (try simp only [Exit.inBlock, Exit.then])
  first | refine bodyPost_ret (results_none rfl _ _ _) rfl ?_ | refine bodyPost_end (results_none rfl _ _ _) rfl ?_
  exact ⟨rfl, rfl⟩

/-- lane.Into, of whatever bytes. -/
theorem into_any (B off n cap : Nat) (ns : List Nat) (s : ByteArray) (c : Nat) (w : World) (h : BytesBlk w B ns) (hB : B < w.heap.size) (hoff : off + n ≤ ns.length) (hns : ns.length ≤ 100000) (hs : n ≤ s.size) (hs2 : s.size ≤ 100000) (hc : c < 256) :
    Calls Try.prog 59 #[.slice (some ⟨B, off, none⟩) n cap, .string s, .int .u8 (c : Int)] w fun e w' => e = .returned (.tuple #[]) ∧ BytesBlk w' B (intoL s c off n ns) ∧ Kept (fun k => k = B) w w' := by
  by_cases hc0 : 0 < c
  · by_cases hn : n < 256
    · exact into_small B off n cap ns s c w h hB hoff hns hs hs2 hc hc0 hn
    · exact into_big B off n cap ns s c w h hB hoff hns hs hs2 hc hc0 (by omega)
  · have e : c = 0 := by omega
    subst e
    refine (into_none B off n cap s w).mono fun e w' ⟨he, hw⟩ => ?_
    subst hw
    exact ⟨he, by rw [intoL_none]; exact h, Kept.refl _ _⟩
end Go.Proofs.Ytibinkppbdeofaa

/- Lanes scaled and added: what the page says, plainly; the page's way, walked. -/

namespace Go.Proofs.Ytibinkppbdeofaa
open Go.ChangeShapes Go.WideShapes Go.ChangeAt Go.RowKit Go.Joins
set_option linter.unusedVariables false
set_option linter.unusedSimpArgs false

/-- A row of which k were done. -/
def partL (n : Nat) (f g : Nat → Nat) (k : Nat) : List Nat := (List.range n).map fun j => if j < k then f j else g j
theorem partL_length (n : Nat) (f g : Nat → Nat) (k : Nat) : (partL n f g k).length = n := by simp [partL]
theorem partL_zero (n : Nat) (f g : Nat → Nat) : partL n f g 0 = (List.range n).map g := by
  unfold partL
  apply List.map_congr_left
  intro j hj
  rw [if_neg (by omega)]
theorem partL_all (n : Nat) (f g : Nat → Nat) : partL n f g n = (List.range n).map f := by
  unfold partL
  apply List.map_congr_left
  intro j hj
  rw [if_pos (List.mem_range.1 hj)]
theorem partL_succ (n : Nat) (f g : Nat → Nat) (k : Nat) : partL n f g (k + 1) = (partL n f g k).set k (f k) := by
  apply List.ext_getElem
  · simp [partL]
  · intro j h1 h2
    by_cases e : k = j
    · subst e
      rw [List.getElem_set_self]
      simp only [partL, List.getElem_map, List.getElem_range]
      rw [if_pos (by omega)]
    · rw [List.getElem_set_ne e]
      simp only [partL, List.getElem_map, List.getElem_range, show j < k + 1 ↔ j < k by omega]
theorem partL_get (n : Nat) (f g : Nat → Nat) {k : Nat} (h : k < n) : (partL n f g k).getD k 0 = g k := by simp [partL, List.getD, h]
theorem bytesOf_range (s : ByteArray) : bytesOf s = (List.range s.size).map (byN s) := by
  apply List.ext_getElem
  · simp [bytesOf_length]
  · intro j h1 h2
    rw [List.getElem_map, List.getElem_range, ← bytesOf_get, ← List.getElem_eq_getD (h := h1)]

def scaledS (a : ByteArray) (c : Nat) : ByteArray := strOf8 ((List.range a.size).map fun i => Gf.mul (byN a i) c)
def addedS (a b : ByteArray) : ByteArray := strOf8 ((List.range a.size).map fun i => byN a i ^^^ byN b i)
def mixS (a b : ByteArray) (c : Nat) : ByteArray := strOf8 ((List.range a.size).map fun i => byN a i ^^^ Gf.mul (byN b i) c)
theorem scaledS_size (a : ByteArray) (c : Nat) : (scaledS a c).size = a.size := by rw [scaledS, strOf8_size]; simp
theorem addedS_size (a b : ByteArray) : (addedS a b).size = a.size := by rw [addedS, strOf8_size]; simp
theorem mixS_size (a b : ByteArray) (c : Nat) : (mixS a b c).size = a.size := by rw [mixS, strOf8_size]; simp
theorem byN_strOf8 {n : Nat} {f : Nat → Nat} {i : Nat} (hi : i < n) (hf : f i < 256) : byN (strOf8 ((List.range n).map f)) i = f i := by
  simp [byN, strOf8, List.getD, hi]
  omega
theorem mixS_scaled (a b : ByteArray) (c : Nat) (h : a.size ≤ b.size) : addedS a (scaledS b c) = mixS a b c := by
  unfold addedS mixS
  congr 1
  apply List.map_congr_left
  intro i hi
  have := List.mem_range.1 hi
  rw [scaledS, byN_strOf8 (f := fun i => Gf.mul (byN b i) c) (by omega) (Gf.mul_lt c (byN_lt b i))]
theorem intoL_mix (a b : ByteArray) (c : Nat) : strOf8 (intoL b c 0 a.size (bytesOf a)) = mixS a b c := by
  unfold mixS
  congr 1
  apply List.ext_getElem
  · simp [intoL_length, bytesOf_length]
  · intro j h1 h2
    have hj : j < a.size := by simpa using h2
    have := intoL_get b c 0 a.size (bytesOf a) j hj (by rw [bytesOf_length]; omega)
    rw [Nat.zero_add] at this
    rw [List.getElem_map, List.getElem_range, List.getElem_eq_getD (fallback := 0), this, bytesOf_get]

theorem refMul_nat (a b g : Nat) (w : World) (ha : a < 256) (hb : b < 256) (hg : Gf.mul a b = g) :
    Calls Try.prog 43 #[.int .u8 (a : Int), .int .u8 (b : Int)] w fun e w' => e = .returned (.int .u8 (g : Int)) ∧ w = w' := by
  have h := refMul_any (a : Int) (b : Int) w (by omega) (by omega) (by omega) (by omega)
  rw [gm_nat, hg] at h
  exact h

set_option maxRecDepth 100000 in
set_option maxHeartbeats 1000000 in
theorem refScaled_any (a : ByteArray) (c : Nat) (w : World) (ha : a.size ≤ 100000) (hc : c < 256) :
    Calls Try.prog 55 #[.string a, .int .u8 (c : Int)] w fun e w' => e = .returned (.string (scaledS a c)) ∧ Below w.heap.size w w' := by
  have hcv : ∀ w', (convert 9 28 (.string a)).run Try.prog w' = .ok (.slice (some ⟨w'.heap.size, 0, none⟩) a.size (grownCap w' a.size 0 5)) (Lib.bytesWorld w' 5 a) := fun w' => Lib.run_convert_string_bytes w' 9 28 5 a Try.underlying9 Try.underlying28 Try.underlying5
  go_enter Try.func55, Try.ntmps55
  go_wp2_with fail
  clear hcv
  have HD0 : Hid (BytesBlk (Lib.bytesWorld w 5 a) w.heap.size (partL a.size (fun i => Gf.mul (byN a i) c) (byN a) 0)) := by
    rw [Hid, partL_zero, ← bytesOf_range]; exact bytesBlk_of w _ a
  have HB0 := Lib.hid (bytesWorld_below w 5 a)
  generalize Lib.bytesWorld w 5 a = V at *
  generalize grownCap w a.size 0 5 = cp at *
  go_loopw [6] (fun i wr => ∃ k : Nat, i = .int .i64 k ∧ k ≤ a.size ∧ Hid (BytesBlk wr w.heap.size (partL a.size (fun i => Gf.mul (byN a i) c) (byN a) k)) ∧ Hid (Below w.heap.size w wr)) (fun i _ => a.size - (intOf i).toNat)
  case atStart => exact ⟨0, rfl, by omega, HD0, HB0⟩
  case round =>
    clear HD0 HB0
    obtain ⟨k, rfl, hk, HD, HB⟩ := hrel
    by_cases hlt : k < a.size
    · obtain ⟨c1, c2, c3⟩ := HD.out k (by rw [partL_length]; exact hlt)
      rw [partL_get _ _ _ hlt] at c1 c2
      obtain ⟨g, hg⟩ : ∃ g, Gf.mul (byN a k) c = g := ⟨_, rfl⟩
      have hg256 : g < 256 := by rw [← hg]; exact Gf.mul_lt c c1
      have HD1 : Hid (BytesBlk (wr.setCell ⟨w.heap.size, k, none⟩ (.int .u8 (g : Int))) w.heap.size (partL a.size (fun i => Gf.mul (byN a i) c) (byN a) (k + 1))) := by
        rw [Hid, partL_succ, hg]; exact HD.out.next hg256
      have HB1 := Lib.hid (HB.out.setCell (p := ⟨w.heap.size, k, none⟩) (Nat.le_refl _) (.int .u8 (g : Int)))
      have HG := Lib.hid hg
      clear hg
      generalize byN a k = x at c1 c2 HG
      have i0 : (0 : Int) ≤ (k : Int) := by omega
      have i1 : (k : Int) < (a.size : Int) := by omega
      go_wp2_with (first | (go_at_call 43; refine (refMul_nat _ _ _ _ (by omega) (by omega) HG.out).mono ?_; rintro e w' ⟨rfl, rfl⟩))
      go_roundw
      case rel => exact ⟨k + 1, by go_num, by omega, HD1, HB1⟩
      case measure => simp [intOf]; omega
    · have hke : k = a.size := by omega
      have hd2 := HD.out
      rw [hke] at hd2
      have hcv2 := convert_bytes (P := Try.prog) (w := wr) (b := w.heap.size) (off := 0) (cap := cp) (ns := partL a.size (fun i => Gf.mul (byN a i) c) (byN a) a.size) Try.underlying28 Try.underlying5 Try.underlying9 (BytesBlk.cells hd2)
      rw [partL_length, partL_all, show strOf8 ((List.range a.size).map fun i => Gf.mul (byN a i) c) = scaledS a c from rfl] at hcv2
      clear hke hd2
      go_wp2_with fail
      go_ret
      exact ⟨rfl, HB.out⟩
end Go.Proofs.Ytibinkppbdeofaa

/- Lanes added, the page's way, walked; lane.MulAdd. -/

namespace Go.Proofs.Ytibinkppbdeofaa
open Go.ChangeShapes Go.WideShapes Go.ChangeAt Go.RowKit Go.Joins
set_option linter.unusedVariables false
set_option linter.unusedSimpArgs false

set_option maxRecDepth 100000 in
set_option maxHeartbeats 1000000 in
theorem refAdded_any (a b : ByteArray) (w : World) (ha : a.size ≤ 100000) (hab : a.size ≤ b.size) (hb : b.size ≤ 100000) :
    Calls Try.prog 54 #[.string a, .string b] w fun e w' => e = .returned (.string (addedS a b)) ∧ Below w.heap.size w w' := by
  have hcv : ∀ w', (convert 9 28 (.string a)).run Try.prog w' = .ok (.slice (some ⟨w'.heap.size, 0, none⟩) a.size (grownCap w' a.size 0 5)) (Lib.bytesWorld w' 5 a) := fun w' => Lib.run_convert_string_bytes w' 9 28 5 a Try.underlying9 Try.underlying28 Try.underlying5
  go_enter Try.func54, Try.ntmps54
  go_wp2_with fail
  clear hcv
  have HD0 : Hid (BytesBlk (Lib.bytesWorld w 5 a) w.heap.size (partL a.size (fun i => byN a i ^^^ byN b i) (byN a) 0)) := by
    rw [Hid, partL_zero, ← bytesOf_range]; exact bytesBlk_of w _ a
  have HB0 := Lib.hid (bytesWorld_below w 5 a)
  generalize Lib.bytesWorld w 5 a = V at *
  generalize grownCap w a.size 0 5 = cp at *
  go_loopw [6] (fun i wr => ∃ k : Nat, i = .int .i64 k ∧ k ≤ a.size ∧ Hid (BytesBlk wr w.heap.size (partL a.size (fun i => byN a i ^^^ byN b i) (byN a) k)) ∧ Hid (Below w.heap.size w wr)) (fun i _ => a.size - (intOf i).toNat)
  case atStart => exact ⟨0, rfl, by omega, HD0, HB0⟩
  case round =>
    clear HD0 HB0
    obtain ⟨k, rfl, hk, HD, HB⟩ := hrel
    by_cases hlt : k < a.size
    · obtain ⟨c1, c2, c3⟩ := HD.out k (by rw [partL_length]; exact hlt)
      rw [partL_get _ _ _ hlt] at c1 c2
      obtain ⟨g, hg⟩ : ∃ g, byN a k ^^^ byN b k = g := ⟨_, rfl⟩
      have hg256 : g < 256 := by rw [← hg]; exact Nat.xor_lt_two_pow (n := 8) (byN_lt a k) (byN_lt b k)
      have HD1 : Hid (BytesBlk (wr.setCell ⟨w.heap.size, k, none⟩ (.int .u8 (g : Int))) w.heap.size (partL a.size (fun i => byN a i ^^^ byN b i) (byN a) (k + 1))) := by
        rw [Hid, partL_succ, hg]; exact HD.out.next hg256
      have HB1 := Lib.hid (HB.out.setCell (p := ⟨w.heap.size, k, none⟩) (Nat.le_refl _) (.int .u8 (g : Int)))
      obtain ⟨y, hcy, hy⟩ : ∃ y : Nat, (∀ h : k < b.size, (b[k]'h).toNat = y) ∧ byN b k = y := ⟨byN b k, fun h => (byN_eq h).symm, rfl⟩
      have hxg := bits_xor_u8 (byN_lt a k) (byN_lt b k)
      rw [hg, hy] at hxg
      generalize byN a k = x at c1 c2 hxg
      have i0 : (0 : Int) ≤ (k : Int) := by omega
      have i1 : (k : Int) < (a.size : Int) := by omega
      have i2 : (k : Int) < (b.size : Int) := by omega
      clear hg hy HD HB
      go_upto_region 5 with (fail)
      go_still_tail 11, (by kernel_rfl)
      change wpList _ _ _ _ _ (World.drew _)
      go_wp2_with fail
      go_roundw
      case rel => exact ⟨k + 1, by go_num, by omega, HD1, Lib.hid (Below.drew HB1.out)⟩
      case measure => simp [intOf]; omega
    · have hke : k = a.size := by omega
      have hd2 := HD.out
      rw [hke] at hd2
      have hcv2 := convert_bytes (P := Try.prog) (w := wr) (b := w.heap.size) (off := 0) (cap := cp) (ns := partL a.size (fun i => byN a i ^^^ byN b i) (byN a) a.size) Try.underlying28 Try.underlying5 Try.underlying9 (BytesBlk.cells hd2)
      rw [partL_length, partL_all, show strOf8 ((List.range a.size).map fun i => byN a i ^^^ byN b i) = addedS a b from rfl] at hcv2
      clear hke hd2
      go_wp2_with fail
      go_ret
      exact ⟨rfl, HB.out⟩
end Go.Proofs.Ytibinkppbdeofaa
