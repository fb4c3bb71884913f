/- Rows of matrices changed, the page's way: scaled; another one added; walked. -/
import Derived.Test.YtdagnmhioellhaaPkA05
namespace Go.Proofs.Ytdagnmhioellhaa
open Go.ChangeShapes Go.WideShapes Go.ChangeAt Go.RowKit Go.Joins
set_option linter.unusedVariables false
set_option linter.unusedSimpArgs false

/-- Numbers from off on, n of them, each changed by itself. -/
def updL (g : Nat → Nat → Nat) (off n : Nat) (l : List Nat) : List Nat := (List.range n).foldl (fun l j => l.set (off + j) (g j (l.getD (off + j) 0))) l
theorem updL_zero (g : Nat → Nat → Nat) (off : Nat) (l : List Nat) : updL g off 0 l = l := rfl
theorem updL_step (g : Nat → Nat → Nat) (off n : Nat) (l : List Nat) : updL g off (n + 1) l = (updL g off n l).set (off + n) (g n ((updL g off n l).getD (off + n) 0)) := by
  rw [updL, List.range_succ, List.foldl_append]; rfl
theorem updL_length (g : Nat → Nat → Nat) (off n : Nat) (l : List Nat) : (updL g off n l).length = l.length := by
  induction n with
  | zero => rfl
  | succ n ih => rw [updL_step, List.length_set, ih]
theorem updL_far (g : Nat → Nat → Nat) (off n : Nat) (l : List Nat) (j : Nat) (h : j < off ∨ off + n ≤ j) : (updL g off n l).getD j 0 = l.getD j 0 := by
  induction n with
  | zero => rfl
  | succ n ih => rw [updL_step, getD_set_ne (by omega), ih (by omega)]
theorem updL_get (g : Nat → Nat → Nat) (off n : Nat) (l : List Nat) (i : Nat) (hi : i < n) (hl : off + n ≤ l.length) : (updL g off n l).getD (off + i) 0 = g i (l.getD (off + i) 0) := by
  induction n with
  | zero => omega
  | succ n ih =>
    by_cases h : i = n
    · rw [updL_step, h, getD_set_eq (by rw [updL_length]; omega), updL_far g off n l (off + n) (by omega)]
    · rw [updL_step, getD_set_ne (by omega), ih (by omega) (by omega)]
theorem updL_succ (g : Nat → Nat → Nat) (off n : Nat) (l : List Nat) : updL g off (n + 1) l = (updL g off n l).set (off + n) (g n (l.getD (off + n) 0)) := by
  rw [updL_step, updL_far g off n l (off + n) (by omega)]
/-- A row scaled. -/
def scaleL (c i by_ : Nat) (l : List Nat) : List Nat := updL (fun _ x => Gf.mul x by_) (i * c) c l
/-- Another row, scaled, added to one. -/
def addL (c i k by_ : Nat) (l : List Nat) : List Nat := updL (fun j x => x ^^^ Gf.mul (l.getD (k * c + j) 0) by_) (i * c) c l

theorem refMul_st (a b g : Nat) (w : World) (ha : a < 256) (hb : b < 256) (hg : Gf.mul a b = g) :
    Calls Try.prog 28 #[.int .u8 (a : Int), .int .u8 (b : Int)] w fun e w' => e = .returned (.int .u8 (g : Int)) ∧ w' = w :=
  (refMul_nat a b g w ha hb hg).mono fun _ _ h => ⟨h.1, h.2.symm⟩
theorem Three.drewS {w : World} {B : Nat} {a b c : Value} (h : Three w B a b c) : Three w.drew B a b c := ⟨h.c0, h.c1, h.c2, h.f0, h.f1, h.f2⟩
theorem Three.below' {w w' : World} {B : Nat} {a b c : Value} (h : Three w B a b c) {p : Nat → Prop} (k : Kept p w w') (hp : ¬ p B) : Three w' B a b c := by
  have hl := cell_block h.c0
  exact ⟨by rw [k.cell (d := ⟨B, 0, none⟩) hl hp]; exact h.c0, by rw [k.cell (d := ⟨B, 1, none⟩) hl hp]; exact h.c1, by rw [k.cell (d := ⟨B, 2, none⟩) hl hp]; exact h.c2,
    by rw [k.frozen (d := ⟨B, 0, none⟩) hl hp]; exact h.f0, by rw [k.frozen (d := ⟨B, 1, none⟩) hl hp]; exact h.f1, by rw [k.frozen (d := ⟨B, 2, none⟩) hl hp]; exact h.f2⟩

set_option maxRecDepth 100000 in
set_option maxHeartbeats 1000000 in
theorem refScale_any (R : Int) (c i by_ B n k : Nat) (ns : List Nat) (w : World) (h : BytesBlk w B ns) (hB : B < w.heap.size) (hn : n = ns.length) (hc : c ≤ 16) (hi : i ≤ 16) (hin : (i + 1) * c ≤ n) (hby : by_ < 256) :
    Calls Try.prog 74 #[matV R (c : Int) (.slice (some ⟨B, 0, none⟩) n k), .int .i64 (i : Int), .int .u8 (by_ : Int)] w fun e w' => e = .returned (.tuple #[]) ∧ BytesBlk w' B (scaleL c i by_ ns) ∧ Kept (fun j => j = B) w w' := by
  subst hn
  have ht := Three.new w (.int .i64 R) (.int .i64 (c : Int)) (.slice (some ⟨B, 0, none⟩) ns.length k) 33
  have HT := Lib.hid ht
  have hb0 := (Below.refl w.heap.size w).alloc (Nat.le_refl _) (.cells #[.int .i64 R, .int .i64 (c : Int), .slice (some ⟨B, 0, none⟩) ns.length k] 33)
  have HK0 : Hid (Kept (fun j => j = B) w (w.alloc (.cells #[.int .i64 R, .int .i64 (c : Int), .slice (some ⟨B, 0, none⟩) ns.length k] 33))) := Lib.hid (Kept.of_below hb0)
  have HD0 : Hid (BytesBlk (w.alloc (.cells #[.int .i64 R, .int .i64 (c : Int), .slice (some ⟨B, 0, none⟩) ns.length k] 33)) B (updL (fun _ x => Gf.mul x by_) (i * c) 0 ns)) := by
    intro j hj
    have k := Kept.of_below (p := fun _ => False) hb0
    obtain ⟨c1, c2, c3⟩ := h j hj
    exact ⟨c1, by rw [k.cell (d := ⟨B, j, none⟩) hB id]; exact c2, by rw [k.frozen (d := ⟨B, j, none⟩) hB id]; exact c3⟩
  obtain ⟨x, hx⟩ : ∃ x, x = i * c := ⟨_, rfl⟩
  have h1 : (i : Int) * (c : Int) = (x : Int) := by rw [hx]; simp
  have hxs : x ≤ 16 * 16 := by rw [hx]; exact Nat.mul_le_mul hi hc
  have hxn : x + c ≤ ns.length := by rw [Nat.add_mul, Nat.one_mul, ← hx] at hin; exact hin
  have w1 : IntKind.i64.wrap (x : Int) = (x : Int) := IntWalk.i64_in _ (by omega)
  have HSC : Hid (scaleL c i by_ ns = updL (fun _ x => Gf.mul x by_) x c ns) := by rw [Hid, scaleL, hx]
  rw [← hx] at HD0
  clear h hx hb0 ht hin
  unfold matV
  go_enter Try.func74, Try.ntmps74
  go_wp2_with fail
  generalize w.alloc (.cells #[.int .i64 R, .int .i64 (c : Int), .slice (some ⟨B, 0, none⟩) ns.length k] 33) = W0 at *
  have HWB : w.heap.size ≠ B := by omega
  generalize hbx : w.heap.size = bx at *
  go_loopw [6] (fun q wr => ∃ j : Nat, q = .int .i64 j ∧ j ≤ c ∧ Hid (BytesBlk wr B (updL (fun _ x => Gf.mul x by_) x j ns)) ∧ Hid (Kept (fun j => j = B) w wr) ∧ Hid (Three wr bx (.int .i64 R) (.int .i64 (c : Int)) (.slice (some ⟨B, 0, none⟩) ns.length k))) (fun q _ => c - (intOf q).toNat)
  case atStart => exact ⟨0, rfl, by omega, HD0, HK0, HT⟩
  case round =>
    clear HD0 HK0 HT
    obtain ⟨j, rfl, hj, HD, HK, HT⟩ := hrel
    obtain ⟨a0, a1, a2, a3, a4, a5⟩ := HT.out
    clear a3 a4 a5
    by_cases hjc : j < c
    · obtain ⟨c1, c2, c3⟩ := HD.out (x + j) (by rw [updL_length]; omega)
      rw [updL_far _ _ _ _ (x + j) (by omega)] at c1 c2
      have HNX := Lib.hid (updL_succ (fun _ x => Gf.mul x by_) x j ns)
      generalize ns.getD (x + j) 0 = old at c1 c2 HNX
      obtain ⟨g, hg⟩ : ∃ g, Gf.mul old by_ = g := ⟨_, rfl⟩
      have hg256 : g < 256 := by rw [← hg]; exact Gf.mul_lt _ c1
      have HD1 : Hid (BytesBlk (wr.setCell ⟨B, x + j, none⟩ (.int .u8 (g : Int))) B (updL (fun _ x => Gf.mul x by_) x (j + 1) ns)) := by
        rw [HNX.out, hg]; exact HD.out.next hg256
      have HK1 : Hid (Kept (fun j => j = B) w (wr.setCell ⟨B, x + j, none⟩ (.int .u8 (g : Int)))) := Lib.hid (HK.out.setCell (d := ⟨B, x + j, none⟩) (fun _ => rfl) _)
      have HT1 : Hid (Three (wr.setCell ⟨B, x + j, none⟩ (.int .u8 (g : Int))) bx (.int .i64 R) (.int .i64 (c : Int)) (.slice (some ⟨B, 0, none⟩) ns.length k)) := Lib.hid (HT.out.below' (p := fun j => j = B) ((Kept.refl (fun j => j = B) wr).setCell (d := ⟨B, x + j, none⟩) (fun _ => rfl) _) (by omega))
      have HG := Lib.hid hg
      have i0 : (0 : Int) ≤ (x : Int) + (j : Int) := by omega
      have i1 : (x : Int) + (j : Int) < (ns.length : Int) := by omega
      have e1 : ((x : Int) + (j : Int)).toNat = x + j := by omega
      have w2 : IntKind.i64.wrap ((x : Int) + (j : Int)) = (x : Int) + (j : Int) := IntWalk.i64_in _ (by omega)
      clear hg HD HK HT HNX
      go_upto_region 4 with (fail)
      go_still_tail 21, (by kernel_rfl)
      still_call (refMul_st _ _ _ _ (by omega) (by omega) HG.out)
      repeat still_step
      refine wpStill_nil ?_
      change wpList _ _ _ _ _ (World.drew _)
      go_wp2_with fail
      go_roundw
      case rel => exact ⟨j + 1, by go_num, by omega, HD1, Lib.hid (Kept.drew HK1.out), Lib.hid HT1.out.drewS⟩
      case measure => simp [intOf]; omega
    · have hjc : j = c := by omega
      have H1 := HD.out
      rw [hjc, ← HSC.out] at H1
      have HD1 := Lib.hid H1
      clear H1 hjc
      go_wp2_with fail
      all_goals
        (try simp only [Exit.inBlock, Exit.then])
        first | refine bodyPost_ret (results_none rfl _ _ _) rfl ?_ | refine bodyPost_end (results_none rfl _ _ _) rfl ?_
        exact ⟨rfl, HD1.out, HK.out⟩
set_option maxRecDepth 100000 in
set_option maxHeartbeats 1000000 in
theorem refAdd_any (R : Int) (c i q by_ B n k : Nat) (ns : List Nat) (w : World) (h : BytesBlk w B ns) (hB : B < w.heap.size) (hn : n = ns.length) (hc : c ≤ 16) (hi : i ≤ 16) (hq : q ≤ 16) (hiq : i ≠ q) (hin : (i + 1) * c ≤ n) (hqn : (q + 1) * c ≤ n) (hby : by_ < 256) :
    Calls Try.prog 75 #[matV R (c : Int) (.slice (some ⟨B, 0, none⟩) n k), .int .i64 (i : Int), .int .i64 (q : Int), .int .u8 (by_ : Int)] w fun e w' => e = .returned (.tuple #[]) ∧ BytesBlk w' B (addL c i q by_ ns) ∧ Kept (fun j => j = B) w w' := by
  subst hn
  have ht := Three.new w (.int .i64 R) (.int .i64 (c : Int)) (.slice (some ⟨B, 0, none⟩) ns.length k) 33
  have HT := Lib.hid ht
  have hb0 := (Below.refl w.heap.size w).alloc (Nat.le_refl _) (.cells #[.int .i64 R, .int .i64 (c : Int), .slice (some ⟨B, 0, none⟩) ns.length k] 33)
  have HK0 : Hid (Kept (fun j => j = B) w (w.alloc (.cells #[.int .i64 R, .int .i64 (c : Int), .slice (some ⟨B, 0, none⟩) ns.length k] 33))) := Lib.hid (Kept.of_below hb0)
  have HD0 : Hid (BytesBlk (w.alloc (.cells #[.int .i64 R, .int .i64 (c : Int), .slice (some ⟨B, 0, none⟩) ns.length k] 33)) B (updL (fun j x => x ^^^ Gf.mul (ns.getD (q * c + j) 0) by_) (i * c) 0 ns)) := by
    intro j hj
    have k := Kept.of_below (p := fun _ => False) hb0
    obtain ⟨c1, c2, c3⟩ := h j hj
    exact ⟨c1, by rw [k.cell (d := ⟨B, j, none⟩) hB id]; exact c2, by rw [k.frozen (d := ⟨B, j, none⟩) hB id]; exact c3⟩
  obtain ⟨x, hx⟩ : ∃ x, x = i * c := ⟨_, rfl⟩
  obtain ⟨y, hy⟩ : ∃ y, y = q * c := ⟨_, rfl⟩
  have h1q : (q : Int) * (c : Int) = (y : Int) := by rw [hy]; simp
  have hys : y ≤ 16 * 16 := by rw [hy]; exact Nat.mul_le_mul hq hc
  have hyn : y + c ≤ ns.length := by rw [Nat.add_mul, Nat.one_mul, ← hy] at hqn; exact hqn
  have w1q : IntKind.i64.wrap (y : Int) = (y : Int) := IntWalk.i64_in _ (by omega)
  have hapart : ∀ j, j < c → (y + j < x ∨ x + c ≤ y + j) := fun j hj => by
    rcases Nat.lt_or_ge q i with h | h
    · left
      have := Nat.mul_le_mul_right c h
      rw [Nat.succ_mul, ← hy, ← hx] at this; omega
    · right
      have := Nat.mul_le_mul_right c (show i + 1 ≤ q by omega)
      rw [Nat.add_mul, Nat.one_mul, ← hy, ← hx] at this; omega
  have h1 : (i : Int) * (c : Int) = (x : Int) := by rw [hx]; simp
  have hxs : x ≤ 16 * 16 := by rw [hx]; exact Nat.mul_le_mul hi hc
  have hxn : x + c ≤ ns.length := by rw [Nat.add_mul, Nat.one_mul, ← hx] at hin; exact hin
  have w1 : IntKind.i64.wrap (x : Int) = (x : Int) := IntWalk.i64_in _ (by omega)
  have HSC : Hid (addL c i q by_ ns = updL (fun j v => v ^^^ Gf.mul (ns.getD (y + j) 0) by_) x c ns) := by rw [Hid, addL, hx, hy]
  rw [← hx, ← hy] at HD0
  clear h hx hy hb0 ht hin hqn
  unfold matV
  go_enter Try.func75, Try.ntmps75
  go_wp2_with fail
  generalize w.alloc (.cells #[.int .i64 R, .int .i64 (c : Int), .slice (some ⟨B, 0, none⟩) ns.length k] 33) = W0 at *
  have HWB : w.heap.size ≠ B := by omega
  generalize hbx : w.heap.size = bx at *
  go_loopw [8] (fun qq wr => ∃ j : Nat, qq = .int .i64 j ∧ j ≤ c ∧ Hid (BytesBlk wr B (updL (fun j v => v ^^^ Gf.mul (ns.getD (y + j) 0) by_) x j ns)) ∧ Hid (Kept (fun j => j = B) w wr) ∧ Hid (Three wr bx (.int .i64 R) (.int .i64 (c : Int)) (.slice (some ⟨B, 0, none⟩) ns.length k))) (fun qq _ => c - (intOf qq).toNat)
  case atStart => exact ⟨0, rfl, by omega, HD0, HK0, HT⟩
  case round =>
    clear HD0 HK0 HT
    obtain ⟨j, rfl, hj, HD, HK, HT⟩ := hrel
    obtain ⟨a0, a1, a2, a3, a4, a5⟩ := HT.out
    clear a3 a4 a5
    by_cases hjc : j < c
    · obtain ⟨c1, c2, c3⟩ := HD.out (x + j) (by rw [updL_length]; omega)
      rw [updL_far _ _ _ _ (x + j) (by omega)] at c1 c2
      have HNX := Lib.hid (updL_succ (fun j v => v ^^^ Gf.mul (ns.getD (y + j) 0) by_) x j ns)
      generalize hns : ns.getD (x + j) 0 = old at c1 c2 HNX
      obtain ⟨d1, d2, _⟩ := HD.out (y + j) (by rw [updL_length]; omega)
      rw [updL_far _ _ _ _ (y + j) (by have := hapart j hjc; omega)] at d1 d2
      generalize hny : ns.getD (y + j) 0 = oth at d1 d2 HNX
      obtain ⟨m, hm⟩ : ∃ m, Gf.mul oth by_ = m := ⟨_, rfl⟩
      have hm256 : m < 256 := by rw [← hm]; exact Gf.mul_lt _ d1
      obtain ⟨g, hg⟩ : ∃ g, old ^^^ m = g := ⟨_, rfl⟩
      have hg256 : g < 256 := by rw [← hg]; exact Nat.xor_lt_two_pow (n := 8) c1 hm256
      have hxg := bits_xor_u8 c1 hm256
      rw [hg] at hxg
      have HD1 : Hid (BytesBlk (wr.setCell ⟨B, x + j, none⟩ (.int .u8 (g : Int))) B (updL (fun j v => v ^^^ Gf.mul (ns.getD (y + j) 0) by_) x (j + 1) ns)) := by
        rw [HNX.out, hm, hg]; exact HD.out.next hg256
      have HK1 : Hid (Kept (fun j => j = B) w (wr.setCell ⟨B, x + j, none⟩ (.int .u8 (g : Int)))) := Lib.hid (HK.out.setCell (d := ⟨B, x + j, none⟩) (fun _ => rfl) _)
      have HT1 : Hid (Three (wr.setCell ⟨B, x + j, none⟩ (.int .u8 (g : Int))) bx (.int .i64 R) (.int .i64 (c : Int)) (.slice (some ⟨B, 0, none⟩) ns.length k)) := Lib.hid (HT.out.below' (p := fun j => j = B) ((Kept.refl (fun j => j = B) wr).setCell (d := ⟨B, x + j, none⟩) (fun _ => rfl) _) (by omega))
      have HG := Lib.hid hm
      have i0 : (0 : Int) ≤ (x : Int) + (j : Int) := by omega
      have i1 : (x : Int) + (j : Int) < (ns.length : Int) := by omega
      have e1 : ((x : Int) + (j : Int)).toNat = x + j := by omega
      have i0q : (0 : Int) ≤ (y : Int) + (j : Int) := by omega
      have i1q : (y : Int) + (j : Int) < (ns.length : Int) := by omega
      have e1q : ((y : Int) + (j : Int)).toNat = y + j := by omega
      have w2q : IntKind.i64.wrap ((y : Int) + (j : Int)) = (y : Int) + (j : Int) := IntWalk.i64_in _ (by omega)
      have w2 : IntKind.i64.wrap ((x : Int) + (j : Int)) = (x : Int) + (j : Int) := IntWalk.i64_in _ (by omega)
      clear hg hm hns hny HD HK HT HNX hapart
      go_upto_region 4 with (fail)
      go_still_tail 32, (by kernel_rfl)
      still_call (refMul_st _ _ _ _ (by omega) (by omega) HG.out)
      repeat still_step
      refine wpStill_nil ?_
      change wpList _ _ _ _ _ (World.drew _)
      go_wp2_with fail
      go_roundw
      case rel => exact ⟨j + 1, by go_num, by omega, HD1, Lib.hid (Kept.drew HK1.out), Lib.hid HT1.out.drewS⟩
      case measure => simp [intOf]; omega
    · have hjc : j = c := by omega
      have H1 := HD.out
      rw [hjc, ← HSC.out] at H1
      have HD1 := Lib.hid H1
      clear H1 hjc
      go_wp2_with fail
      all_goals
        (try simp only [Exit.inBlock, Exit.then])
        first | refine bodyPost_ret (results_none rfl _ _ _) rfl ?_ | refine bodyPost_end (results_none rfl _ _ _) rfl ?_
        exact ⟨rfl, HD1.out, HK.out⟩
end Go.Proofs.Ytdagnmhioellhaa
