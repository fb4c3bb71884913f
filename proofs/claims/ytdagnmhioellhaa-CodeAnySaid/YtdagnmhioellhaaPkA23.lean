/- siloref1.Invert, walked. -/
import Derived.Test.YtdagnmhioellhaaPkA17
namespace Go.Proofs.Ytdagnmhioellhaa
open Go.ChangeShapes Go.WideShapes Go.ChangeAt Go.RowKit Go.Joins Go.Shelf
set_option linter.unusedVariables false
set_option linter.unusedSimpArgs false

theorem three_apart {w : World} {b g : Nat} {x y z : Value} {l : List Nat} (h : BytesBlk w g l) (hne : b ≠ g) : BytesBlk (((w.setCell ⟨b, 0, none⟩ x).setCell ⟨b, 1, none⟩ y).setCell ⟨b, 2, none⟩ z) g l :=
  blk_cell (blk_cell (blk_cell h hne) hne) hne

set_option maxRecDepth 100000 in
set_option maxHeartbeats 4000000 in
theorem refInvert_any (n : Nat) (vm : Value) (ns : List Nat) (w : World) (h : BytesV w vm ns) (hl : ns.length = n * n) (r1 : 1 ≤ n) (r16 : n ≤ 16) :
    Calls Try.prog 39 #[matV (n : Int) (n : Int) vm] w fun e w' => ∃ vl, e = .returned (.tuple #[matV (n : Int) (n : Int) vl, .bool ((rankL n n ns : Int) == (n : Int))]) ∧ BytesV w' vl (invO n ns) ∧ Below w.heap.size w w' := by
  obtain ⟨A, k, rfl⟩ := h.shape
  obtain ⟨oA, hoA⟩ : ∃ x, x = (Obj.cells #[.int .i64 (n : Int), .int .i64 (n : Int), .slice A ns.length k] 33) := ⟨_, rfl⟩
  obtain ⟨oR, hoR⟩ : ∃ x, x = (Obj.cells #[.int .i64 0, .int .i64 0, .slice none 0 0] 33) := ⟨_, rfl⟩
  have tA := Three.new w (.int .i64 (n : Int)) (.int .i64 (n : Int)) (.slice A ns.length k) 33
  rw [← hoA] at tA
  have tR := Three.new (w.alloc oA) (.int .i64 0) (.int .i64 0) (.slice none 0 0) 33
  rw [World.size_alloc, ← hoR] at tR
  have hbe : Below w.heap.size w ((w.alloc oA).alloc oR) := ((Below.refl w.heap.size w).alloc (Nat.le_refl _) oA).alloc (by simp) oR
  have hsz : ((w.alloc oA).alloc oR).heap.size = w.heap.size + 1 + 1 := by simp
  have TA := Lib.hid (tA.alloc oR)
  have TR := Lib.hid tR
  have HBE := Lib.hid hbe
  have HSZ := Lib.hid hsz
  have H := Lib.hid (h.below hbe)
  have HL := Lib.hid hl
  have ho := oneL_length n n
  clear tA tR hbe h hl hsz
  unfold matV
  go_enter Try.func39, Try.ntmps39
  go_upto_region 1 with (fail)
  rw [← hoA, ← hoR]
  generalize (w.alloc oA).alloc oR = W0 at *
  clear hoA hoR
  obtain ⟨a0, a1, a2, _, _, _⟩ := TA.out
  have n0 := World.new_ne W0 _ a0
  have HK : Hid (∀ W', Below W0.heap.size W0 W' → W'.cell? ⟨w.heap.size, 0, none⟩ = some (.int .i64 (n : Int)) ∧ W'.cell? ⟨w.heap.size, 1, none⟩ = some (.int .i64 (n : Int)) ∧ W'.cell? ⟨w.heap.size, 2, none⟩ = some (.slice A ns.length k)) := fun W' h => ⟨below_celllt a0 (cell_block a0) h, below_celllt a1 (cell_block a1) h, below_celllt a2 (cell_block a2) h⟩
  have HO := Lib.hid ho
  clear ho
  go_cut [4, 5] from 7 to 4 (fun r q wx => r = .int .i64 ((rankL n n ns : Nat) : Int) ∧ ∃ b5 g kk, q = .pointer (some ⟨b5, 0, none⟩) ∧ Three wx b5 (.int .i64 (n : Int)) (.int .i64 (n : Int)) (.slice (some ⟨g, 0, none⟩) (n * n) kk) ∧ BytesBlk wx g (invO n ns) ∧ g < wx.heap.size ∧ W0.heap.size ≤ g ∧ W0.heap.size ≤ b5 ∧ Below W0.heap.size W0 wx)
  case first =>
    go_region_held3 (fun W' => W'.cell? ⟨w.heap.size, 0, none⟩ = some (.int .i64 (n : Int)) ∧ W'.cell? ⟨w.heap.size, 1, none⟩ = some (.int .i64 (n : Int)) ∧ W'.cell? ⟨w.heap.size, 2, none⟩ = some (.slice A ns.length k)) (first | exact HK.out _ hcum | exact HK.out _ (Below.drew hcum) | go_keep)
      (first
        | (go_at_call 55; refine (refOne_any n r1 r16 _).mono ?_; rintro e w2 ⟨v2, rfl, hmm, hb2⟩; obtain ⟨v2s, rfl, hv2⟩ := hmm.bytes; have HX2 := Lib.hid hv2; have hcum : Below W0.heap.size W0 w2 := (by first | exact below_of_drewG hb2 | exact cum2 ((Below.refl W0.heap.size W0).alloc (Nat.le_refl _) _) (below_of_drewG hb2)); (try (have hal := Lib.hid ((Three.new W0 (.int .i64 0) (.int .i64 0) (.slice none 0 0) 33).below (below_of_drewG hb2)))); have hsA := hb2.size; clear hb2 hmm; obtain ⟨y0, y1, y2⟩ := HK.out _ hcum; have nx := World.new_ne _ _ y0)
        | (go_at_call 54; refine (swept_any n n n _ v2s ns (oneL n n) _ (by first | exact H.out.below hcum | exact H.out.below (hcum.alloc hcum.size _)) (by first | exact HX2.out | exact HX2.out.below ((Below.refl _ _).alloc (Nat.le_refl _) _)) HL.out HO.out r1 r16 r1 r16 r1 r16).mono ?_; rintro e w3 ⟨g3, k3, hg31, hg32, rfl, hv3, hb3⟩; have hs2 := hcum.size; have hcum : Below W0.heap.size W0 w3 := (by first | exact cum2 hcum hb3 | exact cum2 (hcum.alloc hcum.size _) hb3); (first | (have hal := Lib.hid ((Three.new w2 (.int .i64 0) (.int .i64 0) (.slice none 0 0) 33).below hb3)) | (have hal := Lib.hid (hal.out.below hb3)) | skip); (try (obtain ⟨e0, e1, e2, e3, e4, e5⟩ := hal.out)); have HV3 := Lib.hid (show BytesBlk w3 g3 (invO n ns) from hv3); clear hv3; obtain ⟨y0, y1, y2⟩ := HK.out _ hcum; have nx := World.new_ne _ _ y0; rw [HO.out]; unfold matV))
    all_goals
      have hRk := Lib.hid (rankL_of n n n ns (oneL n n))
      have q3 := hcum.size
      (try simp only [World.size_alloc] at hg31)
      (try (have hsB := (show (W0.alloc (.cells #[.int .i64 0, .int .i64 0, .slice none 0 0] 33)).heap.size ≤ w2.heap.size from hsA); rw [World.size_alloc] at hsB))
      clear a0 a1 a2 y0 y1 y2
      go_wp2_with fail
      go_meet
      refine ⟨by rw [hRk.out], ?_⟩
      first
        | exact ⟨_, g3, k3, rfl, Three.new _ _ _ _ _, blk_below HV3.out hg32 ((Below.refl _ _).alloc (Nat.le_refl _) _), by simp; omega, by omega, by omega, hcum.alloc hcum.size _⟩
        | exact ⟨_, g3, k3, rfl, three_put hal.out _ _ _, three_apart HV3.out (by omega), by simp only [World.size_setCell]; exact hg32, by omega, by omega, ((hcum.setCell (by first | exact Nat.le_refl _ | (dsimp only; omega)) _).setCell (by first | exact Nat.le_refl _ | (dsimp only; omega)) _).setCell (by first | exact Nat.le_refl _ | (dsimp only; omega)) _⟩
  case rest =>
    obtain ⟨rfl, b5, g, kk, rfl, h5, hg, hgs, hg0, hb0, hcum⟩ := hcut
    have hz := HSZ.out
    have HR := Lib.hid (TR.out.below hcum)
    have HFin := Lib.hid (HBE.out.trans (hcum.mono HBE.out.size))
    have HG := Lib.hid hg
    obtain ⟨r0, r1', r2, r3, r4, r5⟩ := HR.out
    obtain ⟨x0, x1, x2, _, _, _⟩ := h5
    clear a0 a1 a2
    obtain ⟨a0, a1, a2⟩ := HK.out _ hcum
    obtain ⟨rr, hrr⟩ : ∃ rr, rr = rankL n n ns := ⟨_, rfl⟩
    rw [← hrr]
    have HRR := Lib.hid hrr
    clear hrr hcum hg
    go_wp2_with fail
    go_region
    go_wp2_with fail
    obtain ⟨t0, t1, t2, _, _, _⟩ := three_put HR.out (.int .i64 (n : Int)) (.int .i64 (n : Int)) (.slice (some ⟨g, 0, none⟩) (n * n) kk)
    refine bodyPost_ret (v := .tuple #[matV (n : Int) (n : Int) (.slice (some ⟨g, 0, none⟩) (n * n) kk), .bool ((rr : Int) == (n : Int))]) (by simp [results, Try.results39, go_sem, matV, t0, t1, t2]) rfl ⟨_, by rw [HRR.out]; rfl, ?_, ?_⟩
    · have hbb := three_apart (b := w.heap.size + 1) (x := .int .i64 (n : Int)) (y := .int .i64 (n : Int)) (z := .slice (some ⟨g, 0, none⟩) (n * n) kk) HG.out (by omega)
      have := BytesV.of_blk (c := kk) hbb.drew (by show g < (World.setCell _ _ _).heap.size; simp only [World.size_setCell]; exact hgs)
      rw [invO_length] at this
      exact this
    · exact Below.drew (((HFin.out.setCell (p := ⟨w.heap.size + 1, 0, none⟩) (by simp) _).setCell (p := ⟨w.heap.size + 1, 1, none⟩) (by simp) _).setCell (p := ⟨w.heap.size + 1, 2, none⟩) (by simp) _)
end Go.Proofs.Ytdagnmhioellhaa
