/- Matrices: asked, made, copied, compared; a row of one; walked. -/
import Derived.Test.YtibinkppbdeofaaMatA
namespace Go.Proofs.Ytibinkppbdeofaa
open Go.ChangeShapes Go.WideShapes Go.ChangeAt Go.RowKit Go.Joins
set_option linter.unusedVariables false
set_option linter.unusedSimpArgs false

set_option maxRecDepth 100000 in
set_option maxHeartbeats 1000000 in
theorem refMatrix_any (R C : Int) (A : Option Addr) (n k : Nat) (w : World) (hn : n ≤ 9223372036854775807) :
    Calls Try.prog 23 #[matV R C (.slice A n k)] w fun e w' => e = .returned (.bool (mayM R C n)) ∧ Below w.heap.size w w' := by
  have hF := (Below.refl w.heap.size w).alloc (Nat.le_refl _) (.cells #[.int .i64 R, .int .i64 C, .slice A n k] 30)
  have HF := Lib.hid hF
  clear hF
  unfold matV
  by_cases hR : 1 ≤ R ∧ R ≤ 16
  · have r1 := Lib.hid (decide_eq_true hR)
    by_cases hC : 1 ≤ C ∧ C ≤ 16
    · have c1 := Lib.hid (decide_eq_true hC)
      have hm := mul_small hR.1 hR.2 hC.1 hC.2
      obtain ⟨q, hq⟩ : ∃ q, q = ((n : Int) == R * C) := ⟨_, rfl⟩
      have H : Hid (mayM R C n = q) := by
        rw [Hid, hq, mayM]
        by_cases e : (n : Int) = R * C
        · rw [beq_iff_eq.2 e]; exact decide_eq_true ⟨hR.1, hR.2, hC.1, hC.2, e⟩
        · rw [beq_eq_false_iff_ne.2 e]; exact decide_eq_false fun h => e h.2.2.2.2
      have hw : IntKind.i64.wrap (R * C) = R * C := IntWalk.i64_in _ (by omega)
      have HQ := Lib.hid hq
      clear hR hC hq
      go_enter Try.func23, Try.ntmps23
      go_wp2_with (first | (go_at_call 25; refine (between3_any _ true (by first | exact r1.out | exact c1.out) _).mono ?_; rintro e w' ⟨rfl, rfl⟩))
      go_ret
      exact ⟨by rw [H.out, HQ.out]; rfl, HF.out⟩
    · have c1 := Lib.hid (decide_eq_false hC)
      have H : Hid (mayM R C n = false) := by rw [Hid, mayM]; exact decide_eq_false fun h => hC ⟨h.2.2.1, h.2.2.2.1⟩
      clear hR hC
      go_enter Try.func23, Try.ntmps23
      go_wp2_with (first | (go_at_call 25; refine (between3_any _ _ rfl _).mono ?_; rintro e w' ⟨rfl, rfl⟩; first | rw [r1.out] | rw [c1.out]))
      go_ret
      exact ⟨by rw [H.out]; rfl, HF.out⟩
  · have r1 := Lib.hid (decide_eq_false hR)
    have H : Hid (mayM R C n = false) := by rw [Hid, mayM]; exact decide_eq_false fun h => hR ⟨h.1, h.2.1⟩
    clear hR
    go_enter Try.func23, Try.ntmps23
    go_wp2_with (first | (go_at_call 25; refine (between3_any _ false r1.out _).mono ?_; rintro e w' ⟨rfl, rfl⟩))
    go_ret
    exact ⟨by rw [H.out]; rfl, HF.out⟩

set_option maxRecDepth 100000 in
set_option maxHeartbeats 400000 in
theorem check_any (R C : Int) (A : Option Addr) (n k : Nat) (w : World) (hn : n ≤ 9223372036854775807) :
    Calls Try.prog 28 #[matV R C (.slice A n k)] w fun e w' => e = .returned (.int .i64 (if mayM R C n = true then 0 else 1)) ∧ Below w.heap.size w w' := by
  have hF := (Below.refl w.heap.size w).alloc (Nat.le_refl _) (.cells #[.int .i64 R, .int .i64 C, .slice A n k] 30)
  have HF := Lib.hid hF
  clear hF
  obtain ⟨b, hb⟩ : ∃ b, b = mayM R C n := ⟨_, rfl⟩
  have HB := Lib.hid hb
  rw [← hb]
  clear hb
  unfold matV
  go_enter Try.func28, Try.ntmps28
  go_wp2_with fail
  refine (mayM_any R C A n k _ hn).mono ?_
  rintro e w' ⟨rfl, hb⟩
  rw [← HB.out]
  have hx := HF.out.trans (hb.mono HF.out.size)
  clear hb
  cases b
  · go_wp2_with fail
    go_ret
    exact ⟨rfl, hx⟩
  · go_wp2_with fail
    go_ret
    exact ⟨rfl, hx⟩

set_option maxRecDepth 100000 in
set_option maxHeartbeats 400000 in
theorem row_any (R : Int) (c i b o n k : Nat) (w : World) (hc : c ≤ 16) (hc1 : 1 ≤ c) (hi : i ≤ 16) (hn : (i + 1) * c ≤ n) (hk : n ≤ k) (hk2 : k ≤ 9223372036854775807) :
    Calls Try.prog 51 #[matV R (c : Int) (.slice (some ⟨b, o, none⟩) n k), .int .i64 (i : Int)] w fun e w' => e = .returned (.slice (some ⟨b, o + i * c, none⟩) c (k - i * c)) ∧ Below w.heap.size w w' := by
  have HF := Lib.hid ((Below.refl w.heap.size w).alloc (Nat.le_refl _) (.cells #[.int .i64 R, .int .i64 (c : Int), .slice (some ⟨b, o, none⟩) n k] 30))
  obtain ⟨x, hx⟩ : ∃ x, x = i * c := ⟨_, rfl⟩
  obtain ⟨y, hy⟩ : ∃ y, y = (i + 1) * c := ⟨_, rfl⟩
  have hyx : y = x + c := by rw [hy, hx, Nat.add_mul, Nat.one_mul]
  have h1 : (i : Int) * (c : Int) = (x : Int) := by rw [hx]; simp
  have h2 : ((i : Int) + 1) * (c : Int) = (y : Int) := by rw [hy]; simp
  rw [← hy] at hn
  rw [← hx]
  have hxs : x ≤ 16 * 16 := by rw [hx]; exact Nat.mul_le_mul hi hc
  have h3 : y - x = c := by omega
  have h4 : (0 : Int) ≤ (x : Int) := by omega
  have h5 : (x : Int) ≤ (y : Int) := by omega
  have h6 : (y : Int) ≤ (k : Int) := by omega
  have w1 : IntKind.i64.wrap (x : Int) = (x : Int) := IntWalk.i64_in _ (by omega)
  have w2 : IntKind.i64.wrap (y : Int) = (y : Int) := IntWalk.i64_in _ (by omega)
  have w3 : IntKind.i64.wrap ((i : Int) + 1) = (i : Int) + 1 := IntWalk.i64_in _ (by omega)
  clear hx hy
  unfold matV
  go_enter Try.func51, Try.ntmps51
  go_wp2_with fail
  all_goals
    first
      | (exfalso; clear HF; omega)
      | (go_ret
         exact ⟨by show Ending.returned (Value.slice _ (x + c - x) (k - x)) = _; rw [Nat.add_sub_cancel_left], HF.out⟩)

theorem hmkM {n : Nat} (hn : n ≤ 100000) : ∀ w, (Instr.makeSlice 28 (.int .i64 (n : Int)) (.int .i64 (n : Int))).run Try.prog w = .ok (.slice (some ⟨w.heap.size, 0, none⟩) n n) (w.alloc (.cells (cellsOf8 (List.replicate n 0)) 5)) := hmk8 hn

set_option maxRecDepth 100000 in
set_option maxHeartbeats 400000 in
theorem empty_any (r c : Nat) (w : World) (hr : r ≤ 16) (hc : c ≤ 16) :
    Calls Try.prog 44 #[.int .i64 (r : Int), .int .i64 (c : Int)] w fun e w' => ∃ B, w.heap.size ≤ B ∧ B < w'.heap.size ∧ e = .returned (matV (r : Int) (c : Int) (.slice (some ⟨B, 0, none⟩) (r * c) (r * c))) ∧ BytesBlk w' B (List.replicate (r * c) 0) ∧ Below w.heap.size w w' := by
  obtain ⟨x, hx⟩ : ∃ x, x = r * c := ⟨_, rfl⟩
  have h1 : (r : Int) * (c : Int) = (x : Int) := by rw [hx]; simp
  have hxs : x ≤ 16 * 16 := by rw [hx]; exact Nat.mul_le_mul hr hc
  have w1 : IntKind.i64.wrap (x : Int) = (x : Int) := IntWalk.i64_in _ (by omega)
  rw [← hx]
  have hmk := hmkM (n := x) (by omega)
  obtain ⟨C, hC⟩ : ∃ C, C = cellsOf8 (List.replicate x 0) := ⟨_, rfl⟩
  rw [← hC] at hmk
  have HC := Lib.hid hC
  clear hx hC
  go_enter Try.func44, Try.ntmps44
  go_wp2_with fail
  have hb := (((Below.refl w.heap.size w).alloc (Nat.le_refl _) (.cells #[.int .i64 (r : Int), .int .i64 (c : Int), .slice (some ⟨w.heap.size + 1, 0, none⟩) x x] 30)).alloc (by simp) (.cells C 5))
  refine bodyPost_ret (v := matV (r : Int) (c : Int) (.slice (some ⟨w.heap.size + 1, 0, none⟩) x x)) (by simp [results, Try.results44, go_sem, matV]) rfl ⟨w.heap.size + 1, by omega, by simp, rfl, ?_, hb⟩
  have := bytesBlk_new (w.alloc (.cells #[.int .i64 (r : Int), .int .i64 (c : Int), .slice (some ⟨w.heap.size + 1, 0, none⟩) x x] 30)) (ns := List.replicate x 0) rfl 5 (by intro y hy; rw [List.eq_of_mem_replicate hy]; decide)
  rw [HC.out]
  rw [World.size_alloc] at this
  exact this
end Go.Proofs.Ytibinkppbdeofaa
