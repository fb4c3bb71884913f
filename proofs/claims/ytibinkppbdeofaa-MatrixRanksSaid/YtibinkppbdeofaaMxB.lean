/- matrix.Invert, walked. -/
import Derived.Test.YtibinkppbdeofaaMxA
namespace Go.Proofs.Ytibinkppbdeofaa
open Go.ChangeShapes Go.WideShapes Go.ChangeAt Go.RowKit Go.Joins Go.Shelf
set_option linter.unusedVariables false
set_option linter.unusedSimpArgs false

/-- What an inversion comes to. -/
def invE (n : Nat) (ns : List Nat) : Int := if rankL n n ns < n then 3 else 0
def InvM (w w' : World) (n : Nat) (ns : List Nat) (v : Value) : Prop := (rankL n n ns < n ∧ v = matV 0 0 (.slice none 0 0)) ∨ (rankL n n ns = n ∧ MadeM w w' v n n (invO n ns))

set_option maxRecDepth 100000 in
set_option maxHeartbeats 4000000 in
theorem invert_yes (n b o k : Nat) (ns : List Nat) (w : World) (h : BytesV w (.slice (some ⟨b, o, none⟩) ns.length k) ns) (hl : ns.length = n * n) (r1 : 1 ≤ n) (r16 : n ≤ 16) :
    Calls Try.prog 11 #[matV (n : Int) (n : Int) (.slice (some ⟨b, o, none⟩) ns.length k)] w fun e w' => ∃ v, e = .returned (.tuple #[v, .int .i64 (invE n ns)]) ∧ InvM w w' n ns v ∧ Below w.heap.size w w' := by
  have HMA := Lib.hid (mayM_of r1 r16 r1 r16 hl)
  have hns : 1 ≤ ns.length := by rw [hl]; exact Nat.mul_le_mul r1 r1
  have hns2 : ns.length ≤ 256 := by rw [hl]; exact Nat.mul_le_mul r16 r16
  have hmx : maxLen ≤ 9223372036854775807 := by unfold maxLen; omega
  obtain ⟨oA, hoA⟩ : ∃ x, x = (Obj.cells #[.int .i64 (n : Int), .int .i64 (n : Int), .slice (some ⟨b, o, none⟩) ns.length k] 30) := ⟨_, rfl⟩
  obtain ⟨oR, hoR⟩ : ∃ x, x = (Obj.cells #[.int .i64 0, .int .i64 0, .slice none 0 0] 30) := ⟨_, rfl⟩
  have tA := Three.new w (.int .i64 (n : Int)) (.int .i64 (n : Int)) (.slice (some ⟨b, o, none⟩) ns.length k) 30
  rw [← hoA] at tA
  have tR := Three.new (w.alloc oA) (.int .i64 0) (.int .i64 0) (.slice none 0 0) 30
  rw [World.size_alloc, ← hoR] at tR
  have hbe : Below w.heap.size w ((w.alloc oA).alloc oR) := ((Below.refl w.heap.size w).alloc (Nat.le_refl _) oA).alloc (by simp) oR
  have hsz : ((w.alloc oA).alloc oR).heap.size = w.heap.size + 1 + 1 := by simp
  have TA := Lib.hid (tA.alloc oR)
  have TR := Lib.hid tR
  have HBE := Lib.hid hbe
  have HSZ := Lib.hid hsz
  have H := Lib.hid (h.below hbe)
  have HL := Lib.hid hl
  clear tA tR hbe h hl hsz
  unfold matV
  go_enter Try.func11, Try.ntmps11
  go_wp2_with fail
  rw [← hoA, ← hoR]
  generalize (w.alloc oA).alloc oR = W0 at *
  clear hoA hoR
  refine (mayM_any (n : Int) (n : Int) (some ⟨b, o, none⟩) ns.length k _ (by omega)).mono ?_
  rintro e w1 ⟨rfl, hb1⟩
  rw [HMA.out]
  obtain ⟨a0, a1, a2, _, _, _⟩ := TA.out.below hb1
  have HB1 := Lib.hid (HBE.out.trans (hb1.mono HBE.out.size))
  have HB01 := Lib.hid hb1
  have hs1 := hb1.size
  have hz := HSZ.out
  clear hb1
  have hne : ((n : Int) == (n : Int)) = true := by simp
  go_wp2_with fail
  refine (one_yes n r1 r16 _).mono ?_
  rintro e w2 ⟨v2, rfl, ⟨X, hX1, hX2, rfl, hblk, _⟩, hb2⟩
  have HB02 := Lib.hid (cum2 HB01.out hb2)
  have HBLK := Lib.hid hblk
  obtain ⟨oX, hoX⟩ : ∃ x, x = (Obj.cells #[.int .i64 (n : Int), .int .i64 (n : Int), .slice (some ⟨X, 0, none⟩) (n * n) (n * n)] 30) := ⟨_, rfl⟩
  have tX := Three.new w2 (.int .i64 (n : Int)) (.int .i64 (n : Int)) (.slice (some ⟨X, 0, none⟩) (n * n) (n * n)) 30
  rw [← hoX] at tX
  have hb3 := (Below.refl w2.heap.size w2).alloc (Nat.le_refl _) oX
  have TX := Lib.hid tX
  have TA3 := Lib.hid ((TA.out.below HB02.out).below hb3)
  have TR3 := Lib.hid ((TR.out.below HB02.out).below hb3)
  have H3 := Lib.hid ((H.out.below HB02.out).below hb3)
  have HX3 := Lib.hid (blk_below hblk hX2 hb3)
  have HB03 := Lib.hid (cum2 HB02.out hb3)
  have hs2 := hb2.size
  have hs3 : w2.heap.size < (w2.alloc oX).heap.size := by simp
  clear hb2 hblk tX hb3 a0 a1 a2 HBLK
  unfold matV
  go_wp2_with fail
  rw [← hoX]
  clear hoX
  generalize w2.alloc oX = W3 at *
  generalize w2.heap.size = bx at *
  obtain ⟨a0, a1, a2, _, _, _⟩ := TA3.out
  obtain ⟨x0, x1, x2, _, _, _⟩ := TX.out
  have HLT : Hid (∀ y ∈ ns, y < 256) := H3.out.2
  have HK : Hid (∀ W', Kept (fun j => W3.heap.size ≤ j ∨ j = X) W3 W' → W'.cell? ⟨w.heap.size, 0, none⟩ = some (.int .i64 (n : Int)) ∧ W'.cell? ⟨w.heap.size, 1, none⟩ = some (.int .i64 (n : Int)) ∧ W'.cell? ⟨w.heap.size, 2, none⟩ = some (.slice (some ⟨b, o, none⟩) ns.length k) ∧ W'.cell? ⟨bx, 0, none⟩ = some (.int .i64 (n : Int)) ∧ W'.cell? ⟨bx, 1, none⟩ = some (.int .i64 (n : Int)) ∧ W'.cell? ⟨bx, 2, none⟩ = some (.slice (some ⟨X, 0, none⟩) (n * n) (n * n))) := fun W' h => by
    obtain ⟨g0, g1, g2, _, _, _⟩ := TA3.out.below' h (by omega)
    obtain ⟨h0, h1, h2, _, _, _⟩ := TX.out.below' h (by omega)
    exact ⟨g0, g1, g2, h0, h1, h2⟩
  have ho := oneL_length n n
  go_region_held3 (fun W' => W'.cell? ⟨w.heap.size, 0, none⟩ = some (.int .i64 (n : Int)) ∧ W'.cell? ⟨w.heap.size, 1, none⟩ = some (.int .i64 (n : Int)) ∧ W'.cell? ⟨w.heap.size, 2, none⟩ = some (.slice (some ⟨b, o, none⟩) ns.length k) ∧ W'.cell? ⟨bx, 0, none⟩ = some (.int .i64 (n : Int)) ∧ W'.cell? ⟨bx, 1, none⟩ = some (.int .i64 (n : Int)) ∧ W'.cell? ⟨bx, 2, none⟩ = some (.slice (some ⟨X, 0, none⟩) (n * n) (n * n))) (first | exact HK.out _ hkk | go_keep)
    (first
      | (go_at_call 40; refine (own_any (n : Int) (n : Int) b o ns.length k ns _ (H3.out.below (Below.drew (Below.refl _ _))) (by omega) (by omega)).mono ?_; rintro e w4 ⟨r, rfl, hown, hb4⟩; obtain ⟨g, cap, rfl, hg1, hg2, hg3, hg4, hg5, hblk⟩ := own_blk hown (by omega) HLT.out; have HG := Lib.hid hblk; have hcum := below_of_drewG hb4; have hkk : Kept (fun j => W3.heap.size ≤ j ∨ j = X) W3 w4 := Kept.of_below hcum; have HX4 := Lib.hid (blk_below HX3.out (by omega) hcum); have hs4 := hcum.size; have HC4 := Lib.hid hcum; clear hb4 hown hblk hcum)
      | (go_at_call 39; refine (solve_at n n n g X ns.length (n * n) cap (n * n) ns (oneL n n) _ HG.out HX4.out hg2 (by omega) (by have hg1' : W3.heap.size ≤ g := hg1; omega) rfl ho.symm HL.out ho r1 r16 r1 r16 r1 r16 (by omega) (by omega) (Nat.le_refl _) (by have := Nat.mul_le_mul r16 r16; omega)).mono ?_; rintro e w5 ⟨rfl, hbx, hk5⟩; have hkk := hkk.trans (kept_low (q := fun j => W3.heap.size ≤ j ∨ j = X) hk5 (fun j _ e => by have hg1' : W3.heap.size ≤ g := hg1; omega)); have HIV := Lib.hid (show BytesBlk w5 X (invO n ns) from hbx); clear hbx hk5))
  have HR5 := Lib.hid (TR3.out.below' hkk (by omega))
  have HX5 := Lib.hid (TX.out.below' hkk (by omega))
  have hs5 := hkk.size
  have HKF := Lib.hid ((Kept.of_below (p := fun j => W3.heap.size ≤ j ∨ j = X) (HBE.out.trans (HB03.out.mono HBE.out.size))).trans hkk)
  obtain ⟨r0, r1', r2, _, _, _⟩ := HR5.out
  obtain ⟨x0, x1, x2, _, _, _⟩ := HX5.out
  clear a0 a1 a2 HK
  have hlo := invO_length n ns
  have HLO := Lib.hid hlo
  have HFin : Hid (Below w.heap.size w w5) := ⟨HKF.out.os, HKF.out.tape, HKF.out.output, HKF.out.size, fun j hj => HKF.out.block j hj (by omega)⟩
  obtain ⟨rr, hrr⟩ : ∃ rr, rr = rankL n n ns := ⟨_, rfl⟩
  rw [← hrr]
  have hrl : rr ≤ n := by rw [hrr]; exact (rankL_le n n ns).1
  have HRR := Lib.hid hrr
  clear hrr ho hlo hkk
  by_cases hlt : rr < n
  · have hd : decide ((rr : Int) < (n : Int)) = true := by simp; omega
    have HE : Hid (invE n ns = 3) := by rw [Hid, invE, ← HRR.out, if_pos hlt]
    go_wp2_with fail
    obtain ⟨t0, t1, t2, _, _, _⟩ := three_put HR5.out (.int .i64 0) (.int .i64 0) (.slice none 0 0)
    refine bodyPost_ret (v := .tuple #[matV 0 0 (.slice none 0 0), .int .i64 3]) (by simp [results, Try.results11, go_sem, matV, t0, t1, t2]) rfl ⟨_, by rw [HE.out], Or.inl ⟨by rw [← HRR.out]; exact hlt, rfl⟩, ?_⟩
    exact ((HFin.out.setCell (p := ⟨w.heap.size + 1, 0, none⟩) (by simp) _).setCell (p := ⟨w.heap.size + 1, 1, none⟩) (by simp) _).setCell (p := ⟨w.heap.size + 1, 2, none⟩) (by simp) _
  · have hd : decide ((rr : Int) < (n : Int)) = false := by simp; omega
    have HE : Hid (invE n ns = 0) := by rw [Hid, invE, ← HRR.out, if_neg hlt]
    go_wp2_with fail
    obtain ⟨t0, t1, t2, _, _, _⟩ := three_put HR5.out (.int .i64 (n : Int)) (.int .i64 (n : Int)) (.slice (some ⟨X, 0, none⟩) (n * n) (n * n))
    refine bodyPost_ret (v := .tuple #[matV (n : Int) (n : Int) (.slice (some ⟨X, 0, none⟩) (n * n) (n * n)), .int .i64 0]) (by simp [results, Try.results11, go_sem, matV, t0, t1, t2]) rfl ⟨_, by rw [HE.out], Or.inr ⟨by rw [← HRR.out]; omega, X, by omega, by simp only [World.size_setCell]; omega, rfl, ?_, HLO.out⟩, ?_⟩
    · exact blk_cell (blk_cell (blk_cell HIV.out (by dsimp only; omega)) (by dsimp only; omega)) (by dsimp only; omega)
    · exact ((HFin.out.setCell (p := ⟨w.heap.size + 1, 0, none⟩) (by simp) _).setCell (p := ⟨w.heap.size + 1, 1, none⟩) (by simp) _).setCell (p := ⟨w.heap.size + 1, 2, none⟩) (by simp) _

set_option maxRecDepth 100000 in
set_option maxHeartbeats 1000000 in
/-- Where no inverse is asked of what may have one. -/
theorem invert_no (R C : Int) (A : Option Addr) (n k : Nat) (w : World) (hn : n ≤ 9223372036854775807) (hm : mayM R C n = false ∨ R ≠ C) :
    Calls Try.prog 11 #[matV R C (.slice A n k)] w fun e w' => e = .returned (.tuple #[matV 0 0 (.slice none 0 0), .int .i64 1]) ∧ Below w.heap.size w w' := by
  obtain ⟨oA, hoA⟩ : ∃ x, x = (Obj.cells #[.int .i64 R, .int .i64 C, .slice A n k] 30) := ⟨_, rfl⟩
  obtain ⟨oR, hoR⟩ : ∃ x, x = (Obj.cells #[.int .i64 0, .int .i64 0, .slice none 0 0] 30) := ⟨_, rfl⟩
  have tA := Three.new w (.int .i64 R) (.int .i64 C) (.slice A n k) 30
  rw [← hoA] at tA
  have tR := Three.new (w.alloc oA) (.int .i64 0) (.int .i64 0) (.slice none 0 0) 30
  rw [World.size_alloc, ← hoR] at tR
  have hbe : Below w.heap.size w ((w.alloc oA).alloc oR) := ((Below.refl w.heap.size w).alloc (Nat.le_refl _) oA).alloc (by simp) oR
  have TA := Lib.hid (tA.alloc oR)
  have TR := Lib.hid tR
  have HBE := Lib.hid hbe
  clear tA tR hbe
  have HM := Lib.hid hm
  unfold matV
  go_enter Try.func11, Try.ntmps11
  go_wp2_with fail
  rw [← hoA, ← hoR]
  generalize (w.alloc oA).alloc oR = W0 at *
  clear hoA hoR hm
  refine (mayM_any R C A n k _ hn).mono ?_
  rintro e w1 ⟨rfl, hb1⟩
  obtain ⟨a0, a1, a2, _, _, _⟩ := TA.out.below hb1
  have HR1 := Lib.hid (TR.out.below hb1)
  have HFin := Lib.hid (HBE.out.trans (hb1.mono HBE.out.size))
  obtain ⟨r0, r1', r2, _, _, _⟩ := HR1.out
  clear hb1
  obtain ⟨mb, hmb⟩ : ∃ mb, mb = mayM R C n := ⟨_, rfl⟩
  rw [← hmb]
  cases mb
  · clear hmb
    go_wp2_with fail
    obtain ⟨t0, t1, t2, _, _, _⟩ := three_put HR1.out (.int .i64 0) (.int .i64 0) (.slice none 0 0)
    refine bodyPost_ret (v := .tuple #[matV 0 0 (.slice none 0 0), .int .i64 1]) (by simp [results, Try.results11, go_sem, matV, t0, t1, t2]) rfl ⟨rfl, ?_⟩
    exact ((HFin.out.setCell (p := ⟨w.heap.size + 1, 0, none⟩) (by simp) _).setCell (p := ⟨w.heap.size + 1, 1, none⟩) (by simp) _).setCell (p := ⟨w.heap.size + 1, 2, none⟩) (by simp) _
  · have hrc : (R == C) = false := beq_eq_false_iff_ne.2 (by rcases HM.out with h | h; · rw [h] at hmb; cases hmb
                                                             · exact h)
    clear hmb
    go_wp2_with fail
    obtain ⟨t0, t1, t2, _, _, _⟩ := three_put HR1.out (.int .i64 0) (.int .i64 0) (.slice none 0 0)
    refine bodyPost_ret (v := .tuple #[matV 0 0 (.slice none 0 0), .int .i64 1]) (by simp [results, Try.results11, go_sem, matV, t0, t1, t2]) rfl ⟨rfl, ?_⟩
    exact ((HFin.out.setCell (p := ⟨w.heap.size + 1, 0, none⟩) (by simp) _).setCell (p := ⟨w.heap.size + 1, 1, none⟩) (by simp) _).setCell (p := ⟨w.heap.size + 1, 2, none⟩) (by simp) _
end Go.Proofs.Ytibinkppbdeofaa
