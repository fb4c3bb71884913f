/- matrix.Mul where it is refused, walked. -/
import Derived.Test.YtibinkppbdeofaaMatY
namespace Go.Proofs.Ytibinkppbdeofaa
open Go.ChangeShapes Go.WideShapes Go.ChangeAt Go.RowKit Go.Joins
set_option linter.unusedVariables false
set_option linter.unusedSimpArgs false

set_option maxRecDepth 100000 in
set_option maxHeartbeats 1000000 in
theorem mul_no (Ra Ca Rb Cb : Int) (A B : Option Addr) (na ka nb kb : Nat) (w : World) (hna : na ≤ 9223372036854775807) (hnb : nb ≤ 9223372036854775807)
    (h : ¬ (mayM Ra Ca na = true ∧ mayM Rb Cb nb = true ∧ Ca = Rb)) :
    Calls Try.prog 20 #[matV Ra Ca (.slice A na ka), matV Rb Cb (.slice B nb kb)] w fun e w' =>
      e = .returned (.tuple #[matV 0 0 (.slice none 0 0), .int .i64 1]) ∧ Below w.heap.size w w' := by
  obtain ⟨oA, hoA⟩ : ∃ o, o = (Obj.cells #[.int .i64 Ra, .int .i64 Ca, .slice A na ka] 30) := ⟨_, rfl⟩
  obtain ⟨oB, hoB⟩ : ∃ o, o = (Obj.cells #[.int .i64 Rb, .int .i64 Cb, .slice B nb kb] 30) := ⟨_, rfl⟩
  obtain ⟨oR, hoR⟩ : ∃ o, o = (Obj.cells #[.int .i64 0, .int .i64 0, .slice none 0 0] 30) := ⟨_, rfl⟩
  have tA := Three.new w (.int .i64 Ra) (.int .i64 Ca) (.slice A na ka) 30
  rw [← hoA] at tA
  have tB := Three.new (w.alloc oA) (.int .i64 Rb) (.int .i64 Cb) (.slice B nb kb) 30
  rw [World.size_alloc, ← hoB] at tB
  have tR := Three.new ((w.alloc oA).alloc oB) (.int .i64 0) (.int .i64 0) (.slice none 0 0) 30
  rw [World.size_alloc, World.size_alloc, ← hoR] at tR
  have HTA := Lib.hid ((tA.alloc oB).alloc oR)
  have HTB := Lib.hid (tB.alloc oR)
  have HTR := Lib.hid tR
  have hbe : Below w.heap.size w (((w.alloc oA).alloc oB).alloc oR) := (((Below.refl w.heap.size w).alloc (Nat.le_refl _) oA).alloc (by simp) oB).alloc (by simp; omega) oR
  have HBE := Lib.hid hbe
  obtain ⟨pa, hpa⟩ : ∃ pa, mayM Ra Ca na = pa := ⟨_, rfl⟩
  obtain ⟨pb, hpb⟩ : ∃ pb, mayM Rb Cb nb = pb := ⟨_, rfl⟩
  rw [hpa, hpb] at h
  have HPA := Lib.hid hpa
  have HPB := Lib.hid hpb
  clear tA tB tR hbe hpa hpb
  unfold matV
  go_enter Try.func20, Try.ntmps20
  go_wp2_with fail
  rw [← hoA, ← hoB, ← hoR]
  generalize ((w.alloc oA).alloc oB).alloc oR = W0 at *
  clear hoA hoB hoR
  refine (mayM_any Ra Ca A na ka _ hna).mono ?_
  rintro e w1 ⟨rfl, hb1⟩
  rw [HPA.out]
  have ht1 := HTR.out.below hb1
  obtain ⟨r0, r1, r2, r3, r4, r5⟩ := ht1
  have hx1 := HBE.out.trans (hb1.mono HBE.out.size)
  cases pa with
  | false =>
    clear h
    have HT := Lib.hid (HTR.out.below hb1)
    clear hb1
    go_wp2_with fail
    obtain ⟨t0, t1, t2, _, _, _⟩ := three_put HT.out (.int .i64 0) (.int .i64 0) (.slice none 0 0)
    refine bodyPost_ret (v := .tuple #[matV 0 0 (.slice none 0 0), .int .i64 1]) (by simp [results, Try.results20, go_sem, matV, *]) rfl ⟨rfl, ?_⟩
    exact ((hx1.setCell (p := ⟨w.heap.size + 1 + 1, 0, none⟩) (by dsimp only; omega) _).setCell (p := ⟨w.heap.size + 1 + 1, 1, none⟩) (by dsimp only; omega) _).setCell (p := ⟨w.heap.size + 1 + 1, 2, none⟩) (by dsimp only; omega) _
  | true =>
    obtain ⟨b0, b1, b2, b3, b4, b5⟩ := HTB.out.below hb1
    clear b3 b4 b5 r0 r1 r2 r3 r4 r5
    go_wp2_with fail
    refine (mayM_any Rb Cb B nb kb _ hnb).mono ?_
    rintro e w2 ⟨rfl, hb2⟩
    rw [HPB.out]
    have hb12 := hb1.trans (hb2.mono hb1.size)
    have HT := Lib.hid (HTR.out.below hb12)
    obtain ⟨r0, r1, r2, r3, r4, r5⟩ := HTR.out.below hb12
    have hx2 := HBE.out.trans (hb12.mono HBE.out.size)
    clear b0 b1 b2
    obtain ⟨a0, a1, a2, a3, a4, a5⟩ := HTA.out.below hb12
    obtain ⟨b0, b1, b2, b3, b4, b5⟩ := HTB.out.below hb12
    clear a3 a4 a5 b3 b4 b5 hb1 hb2 hb12 hx1
    cases pb with
    | false =>
      clear h
      go_wp2_with fail
      obtain ⟨t0, t1, t2, _, _, _⟩ := three_put HT.out (.int .i64 0) (.int .i64 0) (.slice none 0 0)
      refine bodyPost_ret (v := .tuple #[matV 0 0 (.slice none 0 0), .int .i64 1]) (by simp [results, Try.results20, go_sem, matV, *]) rfl ⟨rfl, ?_⟩
      exact ((hx2.setCell (p := ⟨w.heap.size + 1 + 1, 0, none⟩) (by dsimp only; omega) _).setCell (p := ⟨w.heap.size + 1 + 1, 1, none⟩) (by dsimp only; omega) _).setCell (p := ⟨w.heap.size + 1 + 1, 2, none⟩) (by dsimp only; omega) _
    | true =>
      have hne : (Ca != Rb) = true := by rw [bne_iff_ne]; exact fun e => h (by simp [e])
      clear h
      go_wp2_with fail
      obtain ⟨t0, t1, t2, _, _, _⟩ := three_put HT.out (.int .i64 0) (.int .i64 0) (.slice none 0 0)
      refine bodyPost_ret (v := .tuple #[matV 0 0 (.slice none 0 0), .int .i64 1]) (by simp [results, Try.results20, go_sem, matV, *]) rfl ⟨rfl, ?_⟩
      exact ((hx2.setCell (p := ⟨w.heap.size + 1 + 1, 0, none⟩) (by dsimp only; omega) _).setCell (p := ⟨w.heap.size + 1 + 1, 1, none⟩) (by dsimp only; omega) _).setCell (p := ⟨w.heap.size + 1 + 1, 2, none⟩) (by dsimp only; omega) _
end Go.Proofs.Ytibinkppbdeofaa
