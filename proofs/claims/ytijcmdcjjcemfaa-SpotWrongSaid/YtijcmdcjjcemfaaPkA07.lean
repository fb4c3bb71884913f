/- Two rows of a matrix change places, the page's way; walked. -/
import Derived.Test.YtijcmdcjjcemfaaPkA06
import Derived.OrdersHeld
import Derived.Deep.RegionHeld
namespace Go.Proofs.Ytijcmdcjjcemfaa
open Go.ChangeShapes Go.WideShapes Go.ChangeAt Go.RowKit Go.Joins
set_option linter.unusedVariables false
set_option linter.unusedSimpArgs false

/-- Two rows, of which n places were changed. -/
def swapK (x y n : Nat) (l : List Nat) : List Nat := (List.range n).foldl (fun l j => (l.set (x + j) (l.getD (y + j) 0)).set (y + j) (l.getD (x + j) 0)) l
theorem swapK_zero (x y : Nat) (l : List Nat) : swapK x y 0 l = l := rfl
theorem swapK_succ (x y n : Nat) (l : List Nat) : swapK x y (n + 1) l = ((swapK x y n l).set (x + n) ((swapK x y n l).getD (y + n) 0)).set (y + n) ((swapK x y n l).getD (x + n) 0) := by
  rw [swapK, List.range_succ, List.foldl_append]; rfl
theorem swapK_length (x y n : Nat) (l : List Nat) : (swapK x y n l).length = l.length := by
  induction n with
  | zero => rfl
  | succ n ih => rw [swapK_succ, List.length_set, List.length_set, ih]
def swapL (c i k : Nat) (l : List Nat) : List Nat := swapK (i * c) (k * c) c l

set_option maxRecDepth 100000 in
set_option maxHeartbeats 1000000 in
theorem refSwap_any (R : Int) (c i q B n k : Nat) (ns : List Nat) (w : World) (h : BytesBlk w B ns) (hB : B < w.heap.size) (hn : n = ns.length) (hc : c ≤ 16) (hi : i ≤ 16) (hq : q ≤ 16) (hin : (i + 1) * c ≤ n) (hqn : (q + 1) * c ≤ n) :
    Calls Try.prog 65 #[matV R (c : Int) (.slice (some ⟨B, 0, none⟩) n k), .int .i64 (i : Int), .int .i64 (q : Int)] w fun e w' => e = .returned (.tuple #[]) ∧ BytesBlk w' B (swapL c i q ns) ∧ Kept (fun j => j = B) w w' := by
  subst hn
  have ht := Three.new w (.int .i64 R) (.int .i64 (c : Int)) (.slice (some ⟨B, 0, none⟩) ns.length k) 55
  have HT := Lib.hid ht
  have hb0 := (Below.refl w.heap.size w).alloc (Nat.le_refl _) (.cells #[.int .i64 R, .int .i64 (c : Int), .slice (some ⟨B, 0, none⟩) ns.length k] 55)
  have HK0 : Hid (Kept (fun j => j = B) w (w.alloc (.cells #[.int .i64 R, .int .i64 (c : Int), .slice (some ⟨B, 0, none⟩) ns.length k] 55))) := Lib.hid (Kept.of_below hb0)
  have HD0 : Hid (BytesBlk (w.alloc (.cells #[.int .i64 R, .int .i64 (c : Int), .slice (some ⟨B, 0, none⟩) ns.length k] 55)) B (swapK (i * c) (q * c) 0 ns)) := by
    intro j hj
    have k := Kept.of_below (p := fun _ => False) hb0
    obtain ⟨c1, c2, c3⟩ := h j hj
    exact ⟨c1, by rw [k.cell (d := ⟨B, j, none⟩) hB id]; exact c2, by rw [k.frozen (d := ⟨B, j, none⟩) hB id]; exact c3⟩
  obtain ⟨x, hx⟩ : ∃ x, x = i * c := ⟨_, rfl⟩
  obtain ⟨y, hy⟩ : ∃ y, y = q * c := ⟨_, rfl⟩
  have h1 : (i : Int) * (c : Int) = (x : Int) := by rw [hx]; simp
  have h1q : (q : Int) * (c : Int) = (y : Int) := by rw [hy]; simp
  have hxs : x ≤ 16 * 16 := by rw [hx]; exact Nat.mul_le_mul hi hc
  have hys : y ≤ 16 * 16 := by rw [hy]; exact Nat.mul_le_mul hq hc
  have hxn : x + c ≤ ns.length := by rw [Nat.add_mul, Nat.one_mul, ← hx] at hin; exact hin
  have hyn : y + c ≤ ns.length := by rw [Nat.add_mul, Nat.one_mul, ← hy] at hqn; exact hqn
  have w1 : IntKind.i64.wrap (x : Int) = (x : Int) := IntWalk.i64_in _ (by omega)
  have w1q : IntKind.i64.wrap (y : Int) = (y : Int) := IntWalk.i64_in _ (by omega)
  have HSC : Hid (swapL c i q ns = swapK x y c ns) := by rw [Hid, swapL, hx, hy]
  rw [← hx, ← hy] at HD0
  clear h hx hy hb0 ht hin hqn
  unfold matV
  go_enter Try.func65, Try.ntmps65
  go_wp2_with fail
  generalize w.alloc (.cells #[.int .i64 R, .int .i64 (c : Int), .slice (some ⟨B, 0, none⟩) ns.length k] 55) = W0 at *
  have HWB : w.heap.size ≠ B := by omega
  generalize hbx : w.heap.size = bx at *
  go_loopw [6] (fun qq wr => ∃ j : Nat, qq = .int .i64 j ∧ j ≤ c ∧ Hid (BytesBlk wr B (swapK x y j ns)) ∧ Hid (Kept (fun j => j = B) w wr) ∧ Hid (Three wr bx (.int .i64 R) (.int .i64 (c : Int)) (.slice (some ⟨B, 0, none⟩) ns.length k))) (fun qq _ => c - (intOf qq).toNat)
  case atStart => exact ⟨0, rfl, by omega, HD0, HK0, HT⟩
  case round =>
    clear HD0 HK0 HT
    obtain ⟨j, rfl, hj, HD, HK, HT⟩ := hrel
    obtain ⟨a0, a1, a2, a3, a4, a5⟩ := HT.out
    clear a3 a4 a5
    by_cases hjc : j < c
    · have hl := swapK_length x y j ns
      obtain ⟨c1, c2, c3⟩ := HD.out (x + j) (by omega)
      obtain ⟨d1, d2, d3⟩ := HD.out (y + j) (by omega)
      have HNX := Lib.hid (swapK_succ x y j ns)
      have HD1 : Hid (BytesBlk ((wr.setCell ⟨B, x + j, none⟩ (.int .u8 (((swapK x y j ns).getD (y + j) 0 : Nat) : Int))).setCell ⟨B, y + j, none⟩ (.int .u8 (((swapK x y j ns).getD (x + j) 0 : Nat) : Int))) B (swapK x y (j + 1) ns)) := by
        rw [HNX.out]; exact (HD.out.next d1).next c1
      obtain ⟨_, z2, z3⟩ := (HD.out.next (k := x + j) d1) (y + j) (by rw [List.length_set]; omega)
      generalize ((swapK x y j ns).set (x + j) ((swapK x y j ns).getD (y + j) 0)).getD (y + j) 0 = z at z2
      generalize (swapK x y j ns).getD (x + j) 0 = u at *
      generalize (swapK x y j ns).getD (y + j) 0 = v at *
      have HK1 : Hid (Kept (fun j => j = B) w ((wr.setCell ⟨B, x + j, none⟩ (.int .u8 (v : Int))).setCell ⟨B, y + j, none⟩ (.int .u8 (u : Int)))) := Lib.hid ((HK.out.setCell (d := ⟨B, x + j, none⟩) (fun _ => rfl) _).setCell (d := ⟨B, y + j, none⟩) (fun _ => rfl) _)
      have HT1 : Hid (Three ((wr.setCell ⟨B, x + j, none⟩ (.int .u8 (v : Int))).setCell ⟨B, y + j, none⟩ (.int .u8 (u : Int))) bx (.int .i64 R) (.int .i64 (c : Int)) (.slice (some ⟨B, 0, none⟩) ns.length k)) := Lib.hid (HT.out.below' (p := fun j => j = B) (((Kept.refl (fun j => j = B) wr).setCell (d := ⟨B, x + j, none⟩) (fun _ => rfl) _).setCell (d := ⟨B, y + j, none⟩) (fun _ => rfl) _) (by omega))
      have i0 : (0 : Int) ≤ (x : Int) + (j : Int) := by omega
      have i1 : (x : Int) + (j : Int) < (ns.length : Int) := by omega
      have i0q : (0 : Int) ≤ (y : Int) + (j : Int) := by omega
      have i1q : (y : Int) + (j : Int) < (ns.length : Int) := by omega
      have e1 : ((x : Int) + (j : Int)).toNat = x + j := by omega
      have e1q : ((y : Int) + (j : Int)).toNat = y + j := by omega
      have w2 : IntKind.i64.wrap ((x : Int) + (j : Int)) = (x : Int) + (j : Int) := IntWalk.i64_in _ (by omega)
      have w2q : IntKind.i64.wrap ((y : Int) + (j : Int)) = (y : Int) + (j : Int) := IntWalk.i64_in _ (by omega)
      clear HD HK HT HNX hl c1 d1
      go_upto_region 4 with (fail)
      have hS0 : wr.drew.cell? ⟨bx, 0, none⟩ = some (.int .i64 R) ∧ wr.drew.cell? ⟨bx, 1, none⟩ = some (.int .i64 (c : Int)) ∧ wr.drew.cell? ⟨bx, 2, none⟩ = some (.slice (some ⟨B, 0, none⟩) ns.length k) := ⟨a0, a1, a2⟩
      have hS1 : (wr.drew.setCell ⟨B, x + j, none⟩ (.int .u8 (v : Int))).cell? ⟨bx, 0, none⟩ = some (.int .i64 R) ∧ (wr.drew.setCell ⟨B, x + j, none⟩ (.int .u8 (v : Int))).cell? ⟨bx, 1, none⟩ = some (.int .i64 (c : Int)) ∧ (wr.drew.setCell ⟨B, x + j, none⟩ (.int .u8 (v : Int))).cell? ⟨bx, 2, none⟩ = some (.slice (some ⟨B, 0, none⟩) ns.length k) :=
        ⟨by rw [World.cell?_setCell_far _ _ _ _ (by dsimp only; omega)]; exact a0, by rw [World.cell?_setCell_far _ _ _ _ (by dsimp only; omega)]; exact a1, by rw [World.cell?_setCell_far _ _ _ _ (by dsimp only; omega)]; exact a2⟩
      have hS2 : ((wr.drew.setCell ⟨B, x + j, none⟩ (.int .u8 (v : Int))).setCell ⟨B, y + j, none⟩ (.int .u8 (u : Int))).cell? ⟨bx, 0, none⟩ = some (.int .i64 R) ∧ ((wr.drew.setCell ⟨B, x + j, none⟩ (.int .u8 (v : Int))).setCell ⟨B, y + j, none⟩ (.int .u8 (u : Int))).cell? ⟨bx, 1, none⟩ = some (.int .i64 (c : Int)) ∧ ((wr.drew.setCell ⟨B, x + j, none⟩ (.int .u8 (v : Int))).setCell ⟨B, y + j, none⟩ (.int .u8 (u : Int))).cell? ⟨bx, 2, none⟩ = some (.slice (some ⟨B, 0, none⟩) ns.length k) :=
        ⟨by rw [World.cell?_setCell_far _ _ _ _ (by dsimp only; omega)]; exact hS1.1, by rw [World.cell?_setCell_far _ _ _ _ (by dsimp only; omega)]; exact hS1.2.1, by rw [World.cell?_setCell_far _ _ _ _ (by dsimp only; omega)]; exact hS1.2.2⟩
      have HS0 := Lib.hid hS0
      have HS1 := Lib.hid hS1
      have HS2 := Lib.hid hS2
      clear hS0 hS1 hS2 a0 a1 a2
      refine wp_region_held (S := fun W' => W'.cell? ⟨bx, 0, none⟩ = some (.int .i64 R) ∧ W'.cell? ⟨bx, 1, none⟩ = some (.int .i64 (c : Int)) ∧ W'.cell? ⟨bx, 2, none⟩ = some (.slice (some ⟨B, 0, none⟩) ns.length k)) (by kernel_rfl) ?_
      change wpAnyH _ _ _ _ _ 40 _ _ wr.drew
      refine wpAnyH_take (i := 0) (v := ?v0) rfl (by kernel_rfl) (by kernel_rfl) (by kernel_rfl) (fun _ _ _ h => h) (Or.inl ⟨by rfl, ?h0⟩) HS0.out ?r0
      case h0 =>
        rintro W' ⟨b0, b1, b2⟩
        go_simp
        rfl
      try simp only [Act.put, List.setIfInBounds_toArray, List.set_cons_zero, List.set_cons_succ]
      refine wpAnyH_take (i := 1) (v := ?v1) rfl (by kernel_rfl) (by kernel_rfl) (by kernel_rfl) (fun _ _ _ h => h) (Or.inl ⟨by rfl, ?h1⟩) HS0.out ?r1
      case h1 =>
        rintro W' ⟨b0, b1, b2⟩
        go_simp
        rfl
      try simp only [Act.put, List.setIfInBounds_toArray, List.set_cons_zero, List.set_cons_succ]
      refine wpAnyH_take (i := 2) (v := ?v2) rfl (by kernel_rfl) (by kernel_rfl) (by kernel_rfl) (fun _ _ _ h => h) (Or.inl ⟨by rfl, ?h2⟩) HS0.out ?r2
      case h2 =>
        rintro W' ⟨b0, b1, b2⟩
        go_simp
        rfl
      try simp only [Act.put, List.setIfInBounds_toArray, List.set_cons_zero, List.set_cons_succ]
      refine wpAnyH_take (i := 3) (v := ?v3) rfl (by kernel_rfl) (by kernel_rfl) (by kernel_rfl) (fun _ _ _ h => h) (Or.inl ⟨by rfl, ?h3⟩) HS0.out ?r3
      case h3 =>
        rintro W' ⟨b0, b1, b2⟩
        go_simp
        rfl
      try simp only [Act.put, List.setIfInBounds_toArray, List.set_cons_zero, List.set_cons_succ]
      refine wpAnyH_take (i := 4) (v := ?v4) rfl (by kernel_rfl) (by kernel_rfl) (by kernel_rfl) (fun _ _ _ h => h) (Or.inl ⟨by rfl, ?h4⟩) HS0.out ?r4
      case h4 =>
        rintro W' ⟨b0, b1, b2⟩
        go_simp
        rfl
      try simp only [Act.put, List.setIfInBounds_toArray, List.set_cons_zero, List.set_cons_succ]
      refine wpAnyH_take (i := 5) (v := ?v5) rfl (by kernel_rfl) (by kernel_rfl) (by kernel_rfl) (fun _ _ _ h => h) (Or.inl ⟨by rfl, ?h5⟩) HS0.out ?r5
      case h5 =>
        rintro W' ⟨b0, b1, b2⟩
        go_simp
        rfl
      try simp only [Act.put, List.setIfInBounds_toArray, List.set_cons_zero, List.set_cons_succ]
      refine wpAnyH_take (i := 6) (v := ?v6) rfl (by kernel_rfl) (by kernel_rfl) (by kernel_rfl) (fun _ _ _ h => h) (Or.inl ⟨by rfl, ?h6⟩) HS0.out ?r6
      case h6 =>
        rintro W' ⟨b0, b1, b2⟩
        go_simp
        rfl
      try simp only [Act.put, List.setIfInBounds_toArray, List.set_cons_zero, List.set_cons_succ]
      refine wpAnyH_take (i := 7) (v := ?v7) rfl (by kernel_rfl) (by kernel_rfl) (by kernel_rfl) (fun _ _ _ h => h) (Or.inl ⟨by rfl, ?h7⟩) HS0.out ?r7
      case h7 =>
        rintro W' ⟨b0, b1, b2⟩
        go_simp
        rfl
      try simp only [Act.put, List.setIfInBounds_toArray, List.set_cons_zero, List.set_cons_succ]
      refine wpAnyH_take (i := 8) (v := ?v8) rfl (by kernel_rfl) (by kernel_rfl) (by kernel_rfl) (fun _ _ _ h => h) (Or.inl ⟨by rfl, ?h8⟩) HS0.out ?r8
      case h8 =>
        rintro W' ⟨b0, b1, b2⟩
        go_simp
        rfl
      try simp only [Act.put, List.setIfInBounds_toArray, List.set_cons_zero, List.set_cons_succ]
      refine wpAnyH_take (i := 9) (v := ?v9) rfl (by kernel_rfl) (by kernel_rfl) (by kernel_rfl) (fun _ _ _ h => h) (Or.inl ⟨by rfl, ?h9⟩) HS0.out ?r9
      case h9 =>
        rintro W' ⟨b0, b1, b2⟩
        go_simp
        rfl
      try simp only [Act.put, List.setIfInBounds_toArray, List.set_cons_zero, List.set_cons_succ]
      refine wpAnyH_take (i := 10) (v := ?v10) rfl (by kernel_rfl) (by kernel_rfl) (by kernel_rfl) (fun _ _ _ h => h) (Or.inl ⟨by rfl, ?h10⟩) HS0.out ?r10
      case h10 =>
        rintro W' ⟨b0, b1, b2⟩
        go_simp
        rfl
      try simp only [Act.put, List.setIfInBounds_toArray, List.set_cons_zero, List.set_cons_succ]
      refine wpAnyH_take (i := 11) (v := ?v11) rfl (by kernel_rfl) (by kernel_rfl) (by kernel_rfl) (fun _ _ _ h => h) (Or.inl ⟨by rfl, ?h11⟩) HS0.out ?r11
      case h11 =>
        rintro W' ⟨b0, b1, b2⟩
        go_simp
        rfl
      try simp only [Act.put, List.setIfInBounds_toArray, List.set_cons_zero, List.set_cons_succ]
      refine wpAnyH_take (i := 12) (v := ?v12) rfl (by kernel_rfl) (by kernel_rfl) (by kernel_rfl) (fun _ _ _ h => h) (Or.inl ⟨by rfl, ?h12⟩) HS0.out ?r12
      case h12 =>
        rintro W' ⟨b0, b1, b2⟩
        go_simp
        rfl
      try simp only [Act.put, List.setIfInBounds_toArray, List.set_cons_zero, List.set_cons_succ]
      refine wpAnyH_take (i := 13) (v := ?v13) rfl (by kernel_rfl) (by kernel_rfl) (by kernel_rfl) (fun _ _ _ h => h) (Or.inl ⟨by rfl, ?h13⟩) HS0.out ?r13
      case h13 =>
        rintro W' ⟨b0, b1, b2⟩
        go_simp
        rfl
      try simp only [Act.put, List.setIfInBounds_toArray, List.set_cons_zero, List.set_cons_succ]
      refine wpAnyH_take (i := 14) (v := ?v14) rfl (by kernel_rfl) (by kernel_rfl) (by kernel_rfl) (fun _ _ _ h => h) (Or.inl ⟨by rfl, ?h14⟩) HS0.out ?r14
      case h14 =>
        rintro W' ⟨b0, b1, b2⟩
        go_simp
        rfl
      try simp only [Act.put, List.setIfInBounds_toArray, List.set_cons_zero, List.set_cons_succ]
      refine wpAnyH_take (i := 15) (v := ?v15) rfl (by kernel_rfl) (by kernel_rfl) (by kernel_rfl) (fun _ _ _ h => h) (Or.inl ⟨by rfl, ?h15⟩) HS0.out ?r15
      case h15 =>
        rintro W' ⟨b0, b1, b2⟩
        go_simp
        rfl
      try simp only [Act.put, List.setIfInBounds_toArray, List.set_cons_zero, List.set_cons_succ]
      refine wpAnyH_take (i := 16) (v := ?v16) rfl (by kernel_rfl) (by kernel_rfl) (by kernel_rfl) (fun _ _ _ h => h) (Or.inl ⟨by rfl, ?h16⟩) HS0.out ?r16
      case h16 =>
        rintro W' ⟨b0, b1, b2⟩
        go_simp
        rfl
      try simp only [Act.put, List.setIfInBounds_toArray, List.set_cons_zero, List.set_cons_succ]
      refine wpAnyH_take (i := 17) (v := ?v17) rfl (by kernel_rfl) (by kernel_rfl) (by kernel_rfl) (fun _ _ _ h => h) (Or.inl ⟨by rfl, ?h17⟩) HS0.out ?r17
      case h17 =>
        rintro W' ⟨b0, b1, b2⟩
        go_simp
        rfl
      try simp only [Act.put, List.setIfInBounds_toArray, List.set_cons_zero, List.set_cons_succ]
      refine wpAnyH_take (i := 18) (v := ?v18) rfl (by kernel_rfl) (by kernel_rfl) (by kernel_rfl) (fun _ _ _ h => h) (Or.inl ⟨by rfl, ?h18⟩) HS0.out ?r18
      case h18 =>
        rintro W' ⟨b0, b1, b2⟩
        go_simp
        rfl
      try simp only [Act.put, List.setIfInBounds_toArray, List.set_cons_zero, List.set_cons_succ]
      refine wpAnyH_take (i := 19) (v := ?v19) rfl (by kernel_rfl) (by kernel_rfl) (by kernel_rfl) (fun _ _ _ h => h) (Or.inl ⟨by rfl, ?h19⟩) HS0.out ?r19
      case h19 =>
        rintro W' ⟨b0, b1, b2⟩
        go_simp
        rfl
      try simp only [Act.put, List.setIfInBounds_toArray, List.set_cons_zero, List.set_cons_succ]
      refine wpAnyH_take (i := 20) (v := ?v20) rfl (by kernel_rfl) (by kernel_rfl) (by kernel_rfl) (fun _ _ _ h => h) (Or.inl ⟨by rfl, ?h20⟩) HS0.out ?r20
      case h20 =>
        rintro W' ⟨b0, b1, b2⟩
        go_simp
        rfl
      try simp only [Act.put, List.setIfInBounds_toArray, List.set_cons_zero, List.set_cons_succ]
      refine wpAnyH_take (i := 21) (v := ?v21) rfl (by kernel_rfl) (by kernel_rfl) (by kernel_rfl) (fun _ _ _ h => h) (Or.inl ⟨by rfl, ?h21⟩) HS0.out ?r21
      case h21 =>
        rintro W' ⟨b0, b1, b2⟩
        go_simp
        rfl
      try simp only [Act.put, List.setIfInBounds_toArray, List.set_cons_zero, List.set_cons_succ]
      refine wpAnyH_take (i := 22) (v := ?v22) rfl (by kernel_rfl) (by kernel_rfl) (by kernel_rfl) (fun _ _ _ h => h) (Or.inl ⟨by rfl, ?h22⟩) HS0.out ?r22
      case h22 =>
        rintro W' ⟨b0, b1, b2⟩
        go_simp
        rfl
      try simp only [Act.put, List.setIfInBounds_toArray, List.set_cons_zero, List.set_cons_succ]
      refine wpAnyH_take (i := 23) (v := ?v23) rfl (by kernel_rfl) (by kernel_rfl) (by kernel_rfl) (fun _ _ _ h => h) (Or.inl ⟨by rfl, ?h23⟩) HS0.out ?r23
      case h23 =>
        rintro W' ⟨b0, b1, b2⟩
        go_simp
        rfl
      try simp only [Act.put, List.setIfInBounds_toArray, List.set_cons_zero, List.set_cons_succ]
      refine wpAnyH_take (i := 24) (v := ?v24) rfl (by kernel_rfl) (by kernel_rfl) (by kernel_rfl) (fun _ _ _ h => h) (Or.inl ⟨by rfl, ?h24⟩) HS0.out ?r24
      case h24 =>
        rintro W' ⟨b0, b1, b2⟩
        go_simp
        rfl
      try simp only [Act.put, List.setIfInBounds_toArray, List.set_cons_zero, List.set_cons_succ]
      refine wpAnyH_take (i := 26) (v := ?v26) rfl (by kernel_rfl) (by kernel_rfl) (by kernel_rfl) (fun _ _ _ h => h) (Or.inl ⟨by rfl, ?h26⟩) HS0.out ?r26
      case h26 =>
        rintro W' ⟨b0, b1, b2⟩
        go_simp
        rfl
      try simp only [Act.put, List.setIfInBounds_toArray, List.set_cons_zero, List.set_cons_succ]
      refine wpAnyH_take (i := 27) (v := ?v27) rfl (by kernel_rfl) (by kernel_rfl) (by kernel_rfl) (fun _ _ _ h => h) (Or.inl ⟨by rfl, ?h27⟩) HS0.out ?r27
      case h27 =>
        rintro W' ⟨b0, b1, b2⟩
        go_simp
        rfl
      try simp only [Act.put, List.setIfInBounds_toArray, List.set_cons_zero, List.set_cons_succ]
      refine wpAnyH_take (i := 28) (v := ?v28) rfl (by kernel_rfl) (by kernel_rfl) (by kernel_rfl) (fun _ _ _ h => h) (Or.inl ⟨by rfl, ?h28⟩) HS0.out ?r28
      case h28 =>
        rintro W' ⟨b0, b1, b2⟩
        go_simp
        rfl
      try simp only [Act.put, List.setIfInBounds_toArray, List.set_cons_zero, List.set_cons_succ]
      refine wpAnyH_take (i := 29) (v := ?v29) rfl (by kernel_rfl) (by kernel_rfl) (by kernel_rfl) (fun _ _ _ h => h) (Or.inl ⟨by rfl, ?h29⟩) HS0.out ?r29
      case h29 =>
        rintro W' ⟨b0, b1, b2⟩
        go_simp
        rfl
      try simp only [Act.put, List.setIfInBounds_toArray, List.set_cons_zero, List.set_cons_succ]
      refine wpAnyH_take (i := 30) (v := ?v30) rfl (by kernel_rfl) (by kernel_rfl) (by kernel_rfl) (fun _ _ _ h => h) (Or.inl ⟨by rfl, ?h30⟩) HS0.out ?r30
      case h30 =>
        rintro W' ⟨b0, b1, b2⟩
        go_simp
        rfl
      try simp only [Act.put, List.setIfInBounds_toArray, List.set_cons_zero, List.set_cons_succ]
      refine wpAnyH_take (i := 31) (v := ?v31) rfl (by kernel_rfl) (by kernel_rfl) (by kernel_rfl) (fun _ _ _ h => h) (Or.inl ⟨by rfl, ?h31⟩) HS0.out ?r31
      case h31 =>
        rintro W' ⟨b0, b1, b2⟩
        go_simp
        rfl
      try simp only [Act.put, List.setIfInBounds_toArray, List.set_cons_zero, List.set_cons_succ]
      refine wpAnyH_take (i := 32) (v := ?v32) rfl (by kernel_rfl) (by kernel_rfl) (by kernel_rfl) (fun _ _ _ h => h) (Or.inl ⟨by rfl, ?h32⟩) HS0.out ?r32
      case h32 =>
        rintro W' ⟨b0, b1, b2⟩
        go_simp
        rfl
      try simp only [Act.put, List.setIfInBounds_toArray, List.set_cons_zero, List.set_cons_succ]
      refine wpAnyH_take (i := 33) (v := ?v33) rfl (by kernel_rfl) (by kernel_rfl) (by kernel_rfl) (fun _ _ _ h => h) (Or.inl ⟨by rfl, ?h33⟩) HS0.out ?r33
      case h33 =>
        rintro W' ⟨b0, b1, b2⟩
        go_simp
        rfl
      try simp only [Act.put, List.setIfInBounds_toArray, List.set_cons_zero, List.set_cons_succ]
      refine wpAnyH_take (i := 34) (v := ?v34) rfl (by kernel_rfl) (by kernel_rfl) (by kernel_rfl) (fun _ _ _ h => h) (Or.inl ⟨by rfl, ?h34⟩) HS0.out ?r34
      case h34 =>
        rintro W' ⟨b0, b1, b2⟩
        go_simp
        rfl
      try simp only [Act.put, List.setIfInBounds_toArray, List.set_cons_zero, List.set_cons_succ]
      refine wpAnyH_ready (rs := [25, 35]) (by kernel_rfl) (by simp) ?_
      refine AllReadyH.cons rfl (fun K hK => ?_) (AllReadyH.cons rfl (fun K hK => ?_) AllReadyH.nil)
      · rw [if_pos (by rfl)]
        go_simp
        refine hK.out _ _ HS0.out (fun _ => ?_)
        clear hK
        try simp only [Act.put, List.setIfInBounds_toArray, List.set_cons_zero, List.set_cons_succ]
        refine wpAnyH_ready (rs := [35]) (by kernel_rfl) (by simp) ?_
        refine AllReadyH.cons rfl (fun K hK => ?_) AllReadyH.nil
        rw [if_pos (by rfl)]
        go_simp
        refine hK.out _ _ HS0.out (fun _ => ?_)
        clear hK
        try simp only [Act.put, List.setIfInBounds_toArray, List.set_cons_zero, List.set_cons_succ]
        refine wpAnyH_take (i := 36) (v := ?v36a) rfl (by kernel_rfl) (by kernel_rfl) (by kernel_rfl) (fun _ _ _ h => h) (Or.inl ⟨by rfl, ?h36a⟩) HS0.out ?r36a
        case h36a =>
          rintro W' ⟨b0, b1, b2⟩
          go_simp
          rfl
        try simp only [Act.put, List.setIfInBounds_toArray, List.set_cons_zero, List.set_cons_succ]
        refine wpAnyH_ready (rs := [37]) (by kernel_rfl) (by simp) ?_
        refine AllReadyH.cons rfl (fun K hK => ?_) AllReadyH.nil
        rw [if_pos (by rfl)]
        go_simp
        refine hK.out _ _ HS1.out (fun _ => ?_)
        clear hK
        try simp only [Act.put, List.setIfInBounds_toArray, List.set_cons_zero, List.set_cons_succ]
        refine wpAnyH_take (i := 38) (v := ?v38a) rfl (by kernel_rfl) (by kernel_rfl) (by kernel_rfl) (fun _ _ _ h => h) (Or.inl ⟨by rfl, ?h38a⟩) HS1.out ?r38a
        case h38a =>
          rintro W' ⟨b0, b1, b2⟩
          go_simp
          rfl
        try simp only [Act.put, List.setIfInBounds_toArray, List.set_cons_zero, List.set_cons_succ]
        refine wpAnyH_ready (rs := [39]) (by kernel_rfl) (by simp) ?_
        refine AllReadyH.cons rfl (fun K hK => ?_) AllReadyH.nil
        rw [if_pos (by rfl)]
        go_simp
        refine hK.out _ _ HS2.out (fun _ => ?_)
        clear hK
        try simp only [Act.put, List.setIfInBounds_toArray, List.set_cons_zero, List.set_cons_succ]
        refine wpAnyH_done (by kernel_rfl) ?_ _
        go_wp2_with fail
        go_roundw
        case rel => exact ⟨j + 1, by go_num, by omega, HD1, Lib.hid (Kept.drew HK1.out), Lib.hid HT1.out.drewS⟩
        case measure => simp [intOf]; omega
      · rw [if_pos (by rfl)]
        go_simp
        refine hK.out _ _ HS0.out (fun _ => ?_)
        clear hK
        try simp only [Act.put, List.setIfInBounds_toArray, List.set_cons_zero, List.set_cons_succ]
        refine wpAnyH_ready (rs := [25]) (by kernel_rfl) (by simp) ?_
        refine AllReadyH.cons rfl (fun K hK => ?_) AllReadyH.nil
        rw [if_pos (by rfl)]
        go_simp
        refine hK.out _ _ HS0.out (fun _ => ?_)
        clear hK
        try simp only [Act.put, List.setIfInBounds_toArray, List.set_cons_zero, List.set_cons_succ]
        refine wpAnyH_take (i := 36) (v := ?v36b) rfl (by kernel_rfl) (by kernel_rfl) (by kernel_rfl) (fun _ _ _ h => h) (Or.inl ⟨by rfl, ?h36b⟩) HS0.out ?r36b
        case h36b =>
          rintro W' ⟨b0, b1, b2⟩
          go_simp
          rfl
        try simp only [Act.put, List.setIfInBounds_toArray, List.set_cons_zero, List.set_cons_succ]
        refine wpAnyH_ready (rs := [37]) (by kernel_rfl) (by simp) ?_
        refine AllReadyH.cons rfl (fun K hK => ?_) AllReadyH.nil
        rw [if_pos (by rfl)]
        go_simp
        refine hK.out _ _ HS1.out (fun _ => ?_)
        clear hK
        try simp only [Act.put, List.setIfInBounds_toArray, List.set_cons_zero, List.set_cons_succ]
        refine wpAnyH_take (i := 38) (v := ?v38b) rfl (by kernel_rfl) (by kernel_rfl) (by kernel_rfl) (fun _ _ _ h => h) (Or.inl ⟨by rfl, ?h38b⟩) HS1.out ?r38b
        case h38b =>
          rintro W' ⟨b0, b1, b2⟩
          go_simp
          rfl
        try simp only [Act.put, List.setIfInBounds_toArray, List.set_cons_zero, List.set_cons_succ]
        refine wpAnyH_ready (rs := [39]) (by kernel_rfl) (by simp) ?_
        refine AllReadyH.cons rfl (fun K hK => ?_) AllReadyH.nil
        rw [if_pos (by rfl)]
        go_simp
        refine hK.out _ _ HS2.out (fun _ => ?_)
        clear hK
        try simp only [Act.put, List.setIfInBounds_toArray, List.set_cons_zero, List.set_cons_succ]
        refine wpAnyH_done (by kernel_rfl) ?_ _
        go_wp2_with fail
        go_roundw
        case rel => exact ⟨j + 1, by go_num, by omega, HD1, Lib.hid (Kept.drew HK1.out), Lib.hid HT1.out.drewS⟩
        case measure => simp [intOf]; omega
    · have hjc : j = c := by omega
      have H1 := HD.out
      rw [hjc, ← HSC.out] at H1
      have HD1 := Lib.hid H1
      clear H1 hjc
      go_wp2_with fail
      all_goals
        (try simp only [Exit.inBlock, Exit.then])
        first | refine bodyPost_ret (results_none rfl _ _ _) rfl ?_ | refine bodyPost_end (results_none rfl _ _ _) rfl ?_
        exact ⟨rfl, HD1.out, HK.out⟩
end Go.Proofs.Ytijcmdcjjcemfaa

/- matrix.scale, walked. -/

namespace Go.Proofs.Ytijcmdcjjcemfaa
open Go.ChangeShapes Go.WideShapes Go.ChangeAt Go.RowKit Go.Joins
set_option linter.unusedVariables false
set_option linter.unusedSimpArgs false

set_option maxRecDepth 100000 in
set_option maxHeartbeats 1000000 in
theorem scale_any (B off n cap : Nat) (ns : List Nat) (c : Nat) (w : World) (h : BytesBlk w B ns) (hB : B < w.heap.size) (hoff : off + n ≤ ns.length) (hns : ns.length ≤ 100000) (hc : c < 256) :
    Calls Try.prog 84 #[.slice (some ⟨B, off, none⟩) n cap, .int .u8 (c : Int)] w fun e w' => e = .returned (.tuple #[]) ∧ BytesBlk w' B (updL (fun _ x => Gf.mul x c) off n ns) ∧ Kept (fun j => j = B) w w' := by
  have HD0 : Hid (BytesBlk w B (updL (fun _ x => Gf.mul x c) off 0 ns)) := h
  clear h
  go_enter Try.func84, Try.ntmps84
  go_wp2_with fail
  go_loopw [4, 7] (fun _ i wr => ∃ k : Nat, i = .int .i64 k ∧ k ≤ n ∧ Hid (BytesBlk wr B (updL (fun _ x => Gf.mul x c) off k ns)) ∧ Hid (Kept (fun j => j = B) w wr)) (fun _ i _ => n - (intOf i).toNat)
  case atStart => exact ⟨0, rfl, by omega, HD0, Lib.hid (Kept.refl _ _)⟩
  case round =>
    clear HD0
    obtain ⟨k, rfl, hk, HD, HK⟩ := hrel
    by_cases hlt : k < n
    · obtain ⟨c1, c2, c3⟩ := HD.out (off + k) (by rw [updL_length]; omega)
      rw [updL_far _ _ _ _ (off + k) (by omega)] at c1 c2
      have HNX := Lib.hid (updL_succ (fun _ x => Gf.mul x c) off k ns)
      generalize ns.getD (off + k) 0 = old at c1 c2 HNX
      obtain ⟨g, hg⟩ : ∃ g, Gf.mul old c = g := ⟨_, rfl⟩
      have hg256 : g < 256 := by rw [← hg]; exact Gf.mul_lt _ c1
      have HD1 : Hid (BytesBlk (wr.setCell ⟨B, off + k, none⟩ (.int .u8 (g : Int))) B (updL (fun _ x => Gf.mul x c) off (k + 1) ns)) := by
        rw [HNX.out, hg]; exact HD.out.next hg256
      have HK1 : Hid (Kept (fun j => j = B) w (wr.setCell ⟨B, off + k, none⟩ (.int .u8 (g : Int)))) := Lib.hid (HK.out.setCell (d := ⟨B, off + k, none⟩) (fun _ => rfl) _)
      have HG := Lib.hid hg
      have i0 : (0 : Int) ≤ (k : Int) := by omega
      have i1 : (k : Int) < (n : Int) := by omega
      clear hg HD HK HNX
      go_wp2_with (first | (go_at_call 78; refine (fieldMul_nat _ _ _ _ (by omega) (by omega) HG.out).mono ?_; rintro e w' ⟨rfl, rfl⟩))
      go_roundw
      case rel => exact ⟨k + 1, by go_num, by omega, HD1, HK1⟩
      case measure => simp [intOf]; omega
    · have hke : k = n := by omega
      have H1 := HD.out
      rw [hke] at H1
      have HD1 := Lib.hid H1
      clear H1 hke
      go_wp2_with fail
      all_goals
        (try simp only [Exit.inBlock, Exit.then])
        first | refine bodyPost_ret (results_none rfl _ _ _) rfl ?_ | refine bodyPost_end (results_none rfl _ _ _) rfl ?_
        exact ⟨rfl, HD1.out, HK.out⟩
end Go.Proofs.Ytijcmdcjjcemfaa

/- Elimination, plainly: what brings a matrix into steps. -/

namespace Go.Proofs.Ytijcmdcjjcemfaa
open Go.ChangeShapes Go.WideShapes Go.ChangeAt Go.RowKit Go.Joins
set_option linter.unusedVariables false
set_option linter.unusedSimpArgs false

theorem swapL_length (c i k : Nat) (l : List Nat) : (swapL c i k l).length = l.length := swapK_length _ _ _ _
theorem scaleL_length (c i by_ : Nat) (l : List Nat) : (scaleL c i by_ l).length = l.length := updL_length _ _ _ _
theorem addL_length (c i k by_ : Nat) (l : List Nat) : (addL c i k by_ l).length = l.length := updL_length _ _ _ _

/-- The first row from i on, among n, whose number in column c is not 0; i + n: none. -/
def findP (M : List Nat) (ca c : Nat) : Nat → Nat → Nat
  | i, 0 => i
  | i, n + 1 => if M.getD (i * ca + c) 0 = 0 then findP M ca c (i + 1) n else i
theorem findP_ge (M : List Nat) (ca c : Nat) : ∀ (n i : Nat), i ≤ findP M ca c i n ∧ findP M ca c i n ≤ i + n
  | 0, i => by simp [findP]
  | n + 1, i => by
    unfold findP
    split
    · have := findP_ge M ca c n (i + 1); omega
    · omega
theorem findP_zero (M : List Nat) (ca c : Nat) : ∀ (n i j : Nat), i ≤ j → j < findP M ca c i n → M.getD (j * ca + c) 0 = 0
  | 0, i, j, h1, h2 => by simp [findP] at h2; omega
  | n + 1, i, j, h1, h2 => by
    unfold findP at h2
    split at h2
    · rename_i h
      by_cases hj : j = i
      · rw [hj]; exact h
      · exact findP_zero M ca c n (i + 1) j (by omega) h2
    · omega
theorem findP_ne (M : List Nat) (ca c : Nat) : ∀ (n i : Nat), findP M ca c i n < i + n → M.getD (findP M ca c i n * ca + c) 0 ≠ 0
  | 0, i, h => by simp [findP] at h
  | n + 1, i, h => by
    unfold findP at h ⊢
    split at h
    · rename_i h0
      rw [if_pos h0]
      exact findP_ne M ca c n (i + 1) (by omega)
    · rename_i h0
      rw [if_neg h0]; exact h0

/-- A row cleared in column c by row 'rank'; the same for the matrix beside. -/
def clrStep (ca co c rank : Nat) (S : List Nat × List Nat) (k : Nat) : List Nat × List Nat :=
  if k = rank then S else (addL ca k rank (S.1.getD (k * ca + c) 0) S.1, addL co k rank (S.1.getD (k * ca + c) 0) S.2)
/-- All rows but 'rank' cleared. -/
def clrAll (ca co c rank n : Nat) (S : List Nat × List Nat) : List Nat × List Nat := (List.range n).foldl (clrStep ca co c rank) S
theorem clrAll_zero (ca co c rank : Nat) (S : List Nat × List Nat) : clrAll ca co c rank 0 S = S := rfl
theorem clrAll_succ (ca co c rank n : Nat) (S : List Nat × List Nat) : clrAll ca co c rank (n + 1) S = clrStep ca co c rank (clrAll ca co c rank n S) n := by
  rw [clrAll, List.range_succ, List.foldl_append]; rfl
theorem clrStep_length (ca co c rank : Nat) (S : List Nat × List Nat) (k : Nat) : (clrStep ca co c rank S k).1.length = S.1.length ∧ (clrStep ca co c rank S k).2.length = S.2.length := by
  unfold clrStep
  split
  · exact ⟨rfl, rfl⟩
  · exact ⟨addL_length _ _ _ _ _, addL_length _ _ _ _ _⟩
theorem clrAll_length (ca co c rank n : Nat) (S : List Nat × List Nat) : (clrAll ca co c rank n S).1.length = S.1.length ∧ (clrAll ca co c rank n S).2.length = S.2.length := by
  induction n with
  | zero => exact ⟨rfl, rfl⟩
  | succ n ih => rw [clrAll_succ]; exact ⟨(clrStep_length _ _ _ _ _ _).1.trans ih.1, (clrStep_length _ _ _ _ _ _).2.trans ih.2⟩

/-- A pivot found in row p: changed with row 'rank', scaled. -/
def pivM (ca c p rank : Nat) (M : List Nat) : List Nat := scaleL ca rank (Gf.inv ((swapL ca p rank M).getD (rank * ca + c) 0)) (swapL ca p rank M)
def pivO (ca co c p rank : Nat) (M O : List Nat) : List Nat := scaleL co rank (Gf.inv ((swapL ca p rank M).getD (rank * ca + c) 0)) (swapL co p rank O)
/-- One column. -/
def colStep (ra ca co c : Nat) (S : List Nat × List Nat × Nat) : List Nat × List Nat × Nat :=
  if findP S.1 ca c S.2.2 (ra - S.2.2) < ra then
    ((clrAll ca co c S.2.2 ra (pivM ca c (findP S.1 ca c S.2.2 (ra - S.2.2)) S.2.2 S.1, pivO ca co c (findP S.1 ca c S.2.2 (ra - S.2.2)) S.2.2 S.1 S.2.1)).1,
     (clrAll ca co c S.2.2 ra (pivM ca c (findP S.1 ca c S.2.2 (ra - S.2.2)) S.2.2 S.1, pivO ca co c (findP S.1 ca c S.2.2 (ra - S.2.2)) S.2.2 S.1 S.2.1)).2, S.2.2 + 1)
  else S
/-- All columns up to n. -/
def elim (ra ca co : Nat) (M O : List Nat) (n : Nat) : List Nat × List Nat × Nat := (List.range n).foldl (fun S c => colStep ra ca co c S) (M, O, 0)
theorem elim_zero (ra ca co : Nat) (M O : List Nat) : elim ra ca co M O 0 = (M, O, 0) := rfl
theorem elim_succ (ra ca co : Nat) (M O : List Nat) (n : Nat) : elim ra ca co M O (n + 1) = colStep ra ca co n (elim ra ca co M O n) := by
  rw [elim, List.range_succ, List.foldl_append]; rfl
theorem pivM_length (ca c p rank : Nat) (M : List Nat) : (pivM ca c p rank M).length = M.length := by rw [pivM, scaleL_length, swapL_length]
theorem pivO_length (ca co c p rank : Nat) (M O : List Nat) : (pivO ca co c p rank M O).length = O.length := by rw [pivO, scaleL_length, swapL_length]
theorem colStep_length (ra ca co c : Nat) (S : List Nat × List Nat × Nat) : (colStep ra ca co c S).1.length = S.1.length ∧ (colStep ra ca co c S).2.1.length = S.2.1.length := by
  unfold colStep
  split
  · exact ⟨by rw [(clrAll_length _ _ _ _ _ _).1]; exact pivM_length _ _ _ _ _, by rw [(clrAll_length _ _ _ _ _ _).2]; exact pivO_length _ _ _ _ _ _ _⟩
  · exact ⟨rfl, rfl⟩
theorem elim_length (ra ca co : Nat) (M O : List Nat) (n : Nat) : (elim ra ca co M O n).1.length = M.length ∧ (elim ra ca co M O n).2.1.length = O.length := by
  induction n with
  | zero => exact ⟨rfl, rfl⟩
  | succ n ih => rw [elim_succ]; exact ⟨(colStep_length _ _ _ _ _).1.trans ih.1, (colStep_length _ _ _ _ _).2.trans ih.2⟩
theorem colStep_rank (ra ca co c : Nat) (S : List Nat × List Nat × Nat) (h : S.2.2 ≤ ra) : S.2.2 ≤ (colStep ra ca co c S).2.2 ∧ (colStep ra ca co c S).2.2 ≤ ra ∧ (colStep ra ca co c S).2.2 ≤ S.2.2 + 1 := by
  unfold colStep
  split
  · rename_i h0
    have := (findP_ge S.1 ca c (ra - S.2.2) S.2.2).1
    exact ⟨by dsimp only; omega, by dsimp only; omega, by dsimp only; omega⟩
  · exact ⟨Nat.le_refl _, h, by omega⟩
theorem elim_rank (ra ca co : Nat) (M O : List Nat) (n : Nat) : (elim ra ca co M O n).2.2 ≤ ra ∧ (elim ra ca co M O n).2.2 ≤ n := by
  induction n with
  | zero => exact ⟨Nat.zero_le _, Nat.le_refl _⟩
  | succ n ih =>
    rw [elim_succ]
    have := colStep_rank ra ca co n (elim ra ca co M O n) ih.1
    omega

/-- Nothing is added where the number is 0. -/
theorem set_same (l : List Nat) (j : Nat) : l.set j (l.getD j 0) = l := by
  apply List.ext_getElem
  · rw [List.length_set]
  · intro p h1 h2
    rw [List.getElem_set]
    split
    · rename_i h; subst h
      rw [List.getElem_eq_getD (fallback := 0)]
    · rfl
theorem addL_none (c i k : Nat) (l : List Nat) : addL c i k 0 l = l := by
  have h : ∀ n, updL (fun j x => x ^^^ Gf.mul (l.getD (k * c + j) 0) 0) (i * c) n l = l := by
    intro n
    induction n with
    | zero => rfl
    | succ n ih => rw [updL_step, ih, Gf.mul_zero, Nat.xor_zero, set_same]
  exact h c
/-- The code's way to add a row. -/
theorem intoL_addL {c i k by_ : Nat} {l : List Nat} (hl : ∀ x ∈ l, x < 256) : intoL (rowS l c k) by_ (i * c) c l = addL c i k by_ l := by
  have h : ∀ n, n ≤ c → intoL (rowS l c k) by_ (i * c) n l = updL (fun j x => x ^^^ Gf.mul (l.getD (k * c + j) 0) by_) (i * c) n l := by
    intro n
    induction n with
    | zero => intro _; rfl
    | succ n ih => intro hn; rw [intoL_step, updL_step, ih (by omega), byN_rowS hl (by omega)]
  exact h c (Nat.le_refl c)
end Go.Proofs.Ytijcmdcjjcemfaa
