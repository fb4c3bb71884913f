/- matrix.Mul, walked. -/
import Derived.Test.YtibinkppbdeofaaMatX
namespace Go.Proofs.Ytibinkppbdeofaa
open Go.ChangeShapes Go.WideShapes Go.ChangeAt Go.RowKit Go.Joins
set_option linter.unusedVariables false
set_option linter.unusedSimpArgs false

theorem mayM_of {r c n : Nat} (h1 : 1 ≤ r) (h2 : r ≤ 16) (h3 : 1 ≤ c) (h4 : c ≤ 16) (h : n = r * c) : mayM (r : Int) (c : Int) n = true := by
  unfold mayM
  exact decide_eq_true ⟨by omega, by omega, by omega, by omega, by rw [h]; simp⟩

set_option maxRecDepth 100000 in
set_option maxHeartbeats 1000000 in
theorem mul_yes (ra ca cb : Nat) (ba oa ka bb ob kb : Nat) (ms bs : List Nat) (w : World)
    (ha : BytesV w (.slice (some ⟨ba, oa, none⟩) ms.length ka) ms) (hb : BytesV w (.slice (some ⟨bb, ob, none⟩) bs.length kb) bs) (hla : ms.length = ra * ca) (hlb : bs.length = ca * cb)
    (h1 : 1 ≤ ra) (h2 : ra ≤ 16) (h3 : 1 ≤ ca) (h4 : ca ≤ 16) (h5 : 1 ≤ cb) (h6 : cb ≤ 16) (hka : ms.length ≤ ka) (hkb : bs.length ≤ kb) (hka2 : ka ≤ 9223372036854775807) (hkb2 : kb ≤ 9223372036854775807) :
    Calls Try.prog 20 #[matV (ra : Int) (ca : Int) (.slice (some ⟨ba, oa, none⟩) ms.length ka), matV (ca : Int) (cb : Int) (.slice (some ⟨bb, ob, none⟩) bs.length kb)] w fun e w' =>
      ∃ v, e = .returned (.tuple #[v, .int .i64 0]) ∧ MadeM w w' v ra cb (timesL ms bs ra ca cb) ∧ Below w.heap.size w w' := by
  have HMA := Lib.hid (mayM_of h1 h2 h3 h4 hla)
  have HMB := Lib.hid (mayM_of h3 h4 h5 h6 hlb)
  obtain ⟨oA, hoA⟩ : ∃ o, o = (Obj.cells #[.int .i64 (ra : Int), .int .i64 (ca : Int), .slice (some ⟨ba, oa, none⟩) ms.length ka] 30) := ⟨_, rfl⟩
  obtain ⟨oB, hoB⟩ : ∃ o, o = (Obj.cells #[.int .i64 (ca : Int), .int .i64 (cb : Int), .slice (some ⟨bb, ob, none⟩) bs.length kb] 30) := ⟨_, rfl⟩
  obtain ⟨oR, hoR⟩ : ∃ o, o = (Obj.cells #[.int .i64 0, .int .i64 0, .slice none 0 0] 30) := ⟨_, rfl⟩
  have tA := Three.new w (.int .i64 (ra : Int)) (.int .i64 (ca : Int)) (.slice (some ⟨ba, oa, none⟩) ms.length ka) 30
  rw [← hoA] at tA
  have tB := Three.new (w.alloc oA) (.int .i64 (ca : Int)) (.int .i64 (cb : Int)) (.slice (some ⟨bb, ob, none⟩) bs.length kb) 30
  rw [World.size_alloc, ← hoB] at tB
  have tR := Three.new ((w.alloc oA).alloc oB) (.int .i64 0) (.int .i64 0) (.slice none 0 0) 30
  rw [World.size_alloc, World.size_alloc, ← hoR] at tR
  have HTA := Lib.hid ((tA.alloc oB).alloc oR)
  have HTB := Lib.hid (tB.alloc oR)
  have HTR := Lib.hid tR
  have hbe : Below w.heap.size w (((w.alloc oA).alloc oB).alloc oR) := (((Below.refl w.heap.size w).alloc (Nat.le_refl _) oA).alloc (by simp) oB).alloc (by simp; omega) oR
  have HBE := Lib.hid hbe
  have HSZ := Lib.hid (show (((w.alloc oA).alloc oB).alloc oR).heap.size = w.heap.size + 1 + 1 + 1 by simp)
  have HA := Lib.hid ha
  have HB := Lib.hid hb
  have HLA := Lib.hid hla
  have HLB := Lib.hid hlb
  have hma : ms.length ≤ 9223372036854775807 := by omega
  have hmb : bs.length ≤ 9223372036854775807 := by omega
  clear tA tB tR hbe ha hb hla hlb
  unfold matV
  go_enter Try.func20, Try.ntmps20
  go_wp2_with fail
  rw [← hoA, ← hoB, ← hoR]
  generalize ((w.alloc oA).alloc oB).alloc oR = W0 at *
  clear hoA hoB hoR
  refine (mayM_any (ra : Int) (ca : Int) (some ⟨ba, oa, none⟩) ms.length ka _ hma).mono ?_
  rintro e w1 ⟨rfl, hb1⟩
  rw [HMA.out]
  obtain ⟨b0, b1, b2, b3, b4, b5⟩ := HTB.out.below hb1
  clear b3 b4 b5
  go_wp2_with fail
  refine (mayM_any (ca : Int) (cb : Int) (some ⟨bb, ob, none⟩) bs.length kb _ hmb).mono ?_
  rintro e w2 ⟨rfl, hb2⟩
  rw [HMB.out]
  have hb12 := hb1.trans (hb2.mono hb1.size)
  clear b0 b1 b2 hb1 hb2
  obtain ⟨a0, a1, a2, a3, a4, a5⟩ := HTA.out.below hb12
  obtain ⟨b0, b1, b2, b3, b4, b5⟩ := HTB.out.below hb12
  clear a3 a4 a5 b3 b4 b5
  have HB12 := Lib.hid hb12
  have hbe2 := HBE.out.trans (hb12.mono HBE.out.size)
  have HBE2 := Lib.hid hbe2
  clear hb12 hbe2
  go_wp2_with fail
  refine (times_any ra ca cb ba oa ms.length ka bb ob bs.length kb ms bs _ (HA.out.below HBE2.out) (HB.out.below HBE2.out) HLA.out HLB.out h1 h2 h3 h4 h5 h6 hka hkb hka2 hkb2).mono ?_
  rintro e w3 ⟨v, rfl, ⟨X, hX1, hX2, rfl, hblk, hlen⟩, hb3⟩
  have ht := (HTR.out.below HB12.out).below hb3
  have HTR3 := Lib.hid ht
  obtain ⟨r0, r1, r2, r3, r4, r5⟩ := ht
  have HBE3 := Lib.hid (cum2 HBE2.out hb3)
  have hsz2 := HB12.out.size
  rw [HSZ.out] at hsz2
  have HBLK := Lib.hid hblk
  clear hblk hb3 a0 a1 a2 b0 b1 b2
  unfold matV
  go_wp2_with fail
  obtain ⟨t0, t1, t2, _, _, _⟩ := three_put HTR3.out (.int .i64 (ra : Int)) (.int .i64 (cb : Int)) (.slice (some ⟨X, 0, none⟩) (ra * cb) (ra * cb))
  refine bodyPost_ret (v := .tuple #[matV (ra : Int) (cb : Int) (.slice (some ⟨X, 0, none⟩) (ra * cb) (ra * cb)), .int .i64 0]) (by simp [results, Try.results20, go_sem, matV, t0, t1, t2]) rfl ⟨_, rfl, ⟨X, by omega, by simp only [World.size_setCell]; exact hX2, rfl, ?_, hlen⟩, ?_⟩
  · exact blk_cell (blk_cell (blk_cell HBLK.out (by dsimp only; omega)) (by dsimp only; omega)) (by dsimp only; omega)
  · exact ((HBE3.out.setCell (p := ⟨w.heap.size + 1 + 1, 0, none⟩) (by dsimp only; omega) _).setCell (p := ⟨w.heap.size + 1 + 1, 1, none⟩) (by dsimp only; omega) _).setCell (p := ⟨w.heap.size + 1 + 1, 2, none⟩) (by dsimp only; omega) _
end Go.Proofs.Ytibinkppbdeofaa
