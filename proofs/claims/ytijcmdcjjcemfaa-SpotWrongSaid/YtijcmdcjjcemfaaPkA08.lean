/- matrix.turn, walked. -/
import Derived.Test.YtijcmdcjjcemfaaPkA07
import Derived.Laws.IdiomCopy
import Derived.Lib.SlBuf
import Derived.OrdersHeld
import Derived.Deep.RegionHeld
import Derived.Test.YtijcmdcjjcemfaaPkA04
import Derived.Test.YtijcmdcjjcemfaaPkA05
namespace Go.Proofs.Ytijcmdcjjcemfaa
open Go.ChangeShapes Go.WideShapes Go.ChangeAt Go.RowKit Go.Joins
set_option linter.unusedVariables false
set_option linter.unusedSimpArgs false

theorem swapK_far (x y n : Nat) (l : List Nat) (j : Nat) (h1 : j < x ∨ x + n ≤ j) (h2 : j < y ∨ y + n ≤ j) : (swapK x y n l).getD j 0 = l.getD j 0 := by
  induction n with
  | zero => rfl
  | succ n ih => rw [swapK_succ, getD_set_ne (by omega), getD_set_ne (by omega), ih (by omega) (by omega)]
theorem swapK_get {x y n : Nat} {l : List Nat} (hd : x + n ≤ y ∨ y + n ≤ x) (hx : x + n ≤ l.length) (hy : y + n ≤ l.length) : ∀ j, j < n → (swapK x y n l).getD (x + j) 0 = l.getD (y + j) 0 ∧ (swapK x y n l).getD (y + j) 0 = l.getD (x + j) 0 := by
  induction n with
  | zero => intro j hj; omega
  | succ n ih =>
    intro j hj
    have ih := ih (by omega) (by omega) (by omega)
    rw [swapK_succ]
    by_cases h : j = n
    · subst h
      rw [swapK_far x y j l (y + j) (by omega) (by omega), swapK_far x y j l (x + j) (by omega) (by omega)]
      exact ⟨by rw [getD_set_ne (by omega), getD_set_eq (by rw [swapK_length]; omega)], by rw [getD_set_eq (by rw [List.length_set, swapK_length]; omega)]⟩
    · have := ih j (by omega)
      exact ⟨by rw [getD_set_ne (by omega), getD_set_ne (by omega)]; exact this.1, by rw [getD_set_ne (by omega), getD_set_ne (by omega)]; exact this.2⟩
theorem swapK_same (x n : Nat) (l : List Nat) : swapK x x n l = l := by
  induction n with
  | zero => rfl
  | succ n ih => rw [swapK_succ, ih, set_same, set_same]
theorem list_getD_ext {l m : List Nat} (hl : l.length = m.length) (h : ∀ j, j < l.length → l.getD j 0 = m.getD j 0) : l = m := by
  apply List.ext_getElem hl
  intro p h1 h2
  rw [List.getElem_eq_getD (fallback := 0), List.getElem_eq_getD (fallback := 0)]
  exact h p h1

/-- Bytes put from off on. -/
def putL (off : Nat) (cs : List Nat) (l : List Nat) : List Nat := updL (fun j _ => cs.getD j 0) off cs.length l
theorem putL_length (off : Nat) (cs l : List Nat) : (putL off cs l).length = l.length := updL_length _ _ _ _
/-- Two rows put crosswise. -/
theorem put_swap {c i q : Nat} {l : List Nat} (hiq : i ≠ q) (hi : (i + 1) * c ≤ l.length) (hq : (q + 1) * c ≤ l.length) :
    putL (q * c) (rowN l c i) (putL (i * c) (rowN l c q) l) = swapL c i q l := by
  have li := rowN_length hi
  have lq := rowN_length hq
  have hd : i * c + c ≤ q * c ∨ q * c + c ≤ i * c := by
    rcases Nat.lt_or_gt_of_ne hiq with h | h
    · left; have := Nat.mul_le_mul_right c h; rw [Nat.succ_mul] at this; omega
    · right; have := Nat.mul_le_mul_right c h; rw [Nat.succ_mul] at this; omega
  rw [Nat.add_mul, Nat.one_mul] at hi hq
  have hg := swapK_get (x := i * c) (y := q * c) (n := c) hd hi hq
  apply list_getD_ext
  · rw [putL_length, putL_length, swapL, swapK_length]
  · intro j hj
    rw [putL_length, putL_length] at hj
    rw [putL, putL, li, lq, swapL]
    by_cases h1 : i * c ≤ j ∧ j < i * c + c
    · obtain ⟨d, rfl⟩ : ∃ d, j = i * c + d := ⟨j - i * c, by omega⟩
      rw [updL_far _ _ _ _ _ (by omega), updL_get _ _ _ _ _ (by omega) hi, (hg d (by omega)).1, rowN_get (by omega)]
    · by_cases h2 : q * c ≤ j ∧ j < q * c + c
      · obtain ⟨d, rfl⟩ : ∃ d, j = q * c + d := ⟨j - q * c, by omega⟩
        rw [updL_get _ _ _ _ _ (by omega) (by rw [updL_length]; exact hq), (hg d (by omega)).2, rowN_get (by omega)]
      · rw [updL_far _ _ _ _ _ (by omega), updL_far _ _ _ _ _ (by omega), swapK_far _ _ _ _ _ (by omega) (by omega)]

theorem setCells_blk {B : Nat} : ∀ (cs : List Nat) (off : Nat) (w : World) (l : List Nat), BytesBlk w B l → (∀ x ∈ cs, x < 256) → BytesBlk (w.setCells B off (u8s cs)) B (updL (fun j _ => cs.getD j 0) off cs.length l)
  | [], off, w, l, h, _ => h
  | x :: cs, off, w, l, h, hx => by
    have ih := setCells_blk cs (off + 1) (w.setCell ⟨B, off, none⟩ (.int .u8 (x : Int))) (l.set off x) (h.next (hx x (by simp))) (fun y hy => hx y (by simp [hy]))
    have e : updL (fun j _ => (x :: cs).getD j 0) off (x :: cs).length l = updL (fun j _ => cs.getD j 0) (off + 1) cs.length (l.set off x) := by
      have hh : ∀ n, updL (fun j _ => (x :: cs).getD j 0) off (n + 1) l = updL (fun j _ => cs.getD j 0) (off + 1) n (l.set off x) := by
        intro n
        induction n with
        | zero => rfl
        | succ n ih => rw [updL_step, ih, updL_step]; simp [Nat.add_assoc, Nat.add_comm 1 n]
      exact hh cs.length
    rw [e]
    exact ih
theorem setCells_kept {B : Nat} : ∀ (cs : List Value) (off : Nat) (w : World), Kept (fun j => j = B) w (w.setCells B off cs)
  | [], _, _ => Kept.refl _ _
  | v :: r, off, w => ((Kept.refl (fun j => j = B) w).setCell (d := ⟨B, off, none⟩) (fun _ => rfl) v).trans (setCells_kept r (off + 1) _)
/-- The builtin copy, of bytes. -/
theorem copy_run {W : World} {B : Nat} {l cs : List Nat} {off bs os c cap cap' : Nat} (h : BytesBlk W B l) (hoff : off + c ≤ l.length) (hc : cs.length = c)
    (hs : ∀ j, j < c → W.cell? ⟨bs, os + j, none⟩ = some (.int .u8 ((cs.getD j 0 : Nat) : Int))) :
    (Builtin.copy_ #[35, 35] 3 #[.slice (some ⟨B, off, none⟩) c cap, .slice (some ⟨bs, os, none⟩) c cap']).run Try.prog W = .ok (goInt c) (W.setCells B off (u8s cs)) := by
  have := run_copy_cells (P := Try.prog) W 35 35 3 5 B off c cap ⟨bs, os, none⟩ c cap' (u8s cs) Try.underlying35 (by kernel_rfl) (by rw [u8s_length, hc]; exact (Nat.min_self c).symm)
    (fun j v hj => by
      have hl : j < cs.length := by have := (List.getElem?_eq_some_iff.1 hj).1; rwa [u8s_length] at this
      rw [Go.WideShapes.add_plain, hs j (by omega), ← hj]
      simp [u8s, List.getD, hl])
    (fun j hj => by rw [u8s_length] at hj; rw [(h (off + j) (by omega)).2.1]; rfl)
    (fun j hj => by rw [u8s_length] at hj; exact (h (off + j) (by omega)).2.2)
    (fun v hv => by obtain ⟨x, _, rfl⟩ := List.mem_map.1 hv; rfl)
  rw [u8s_length, hc] at this
  exact this
end Go.Proofs.Ytijcmdcjjcemfaa

/- What elimination does to entries, plainly. -/

namespace Go.Proofs.Ytijcmdcjjcemfaa
set_option linter.unusedVariables false
set_option linter.unusedSimpArgs false

/-- An entry. -/
def ent (c : Nat) (l : List Nat) (i j : Nat) : Nat := l.getD (i * c + j) 0
theorem row_apart {c i k j : Nat} (hj : j < c) (h : i ≠ k) : i * c + j < k * c ∨ k * c + c ≤ i * c + j := by
  rcases Nat.lt_or_gt_of_ne h with h | h
  · left; have := Nat.mul_le_mul_right c h; rw [Nat.succ_mul] at this; omega
  · right; have := Nat.mul_le_mul_right c h; rw [Nat.succ_mul] at this; omega
theorem row_fits {c r k : Nat} (h : k < r) : k * c + c ≤ r * c := by have := Nat.mul_le_mul_right c h; rw [Nat.succ_mul] at this; exact this
theorem ent_scale {c r k v i j : Nat} {l : List Nat} (hl : l.length = r * c) (hk : k < r) (hj : j < c) : ent c (scaleL c k v l) i j = if i = k then Gf.mul (ent c l i j) v else ent c l i j := by
  unfold ent scaleL
  by_cases h : i = k
  · subst h; rw [if_pos rfl, updL_get _ _ _ _ _ hj (by rw [hl]; exact row_fits hk)]
  · rw [if_neg h, updL_far _ _ _ _ _ (row_apart hj h)]
theorem ent_add {c r k q v i j : Nat} {l : List Nat} (hl : l.length = r * c) (hk : k < r) (hj : j < c) : ent c (addL c k q v l) i j = if i = k then ent c l i j ^^^ Gf.mul (ent c l q j) v else ent c l i j := by
  unfold ent addL
  by_cases h : i = k
  · subst h; rw [if_pos rfl, updL_get _ _ _ _ _ hj (by rw [hl]; exact row_fits hk)]
  · rw [if_neg h, updL_far _ _ _ _ _ (row_apart hj h)]
theorem ent_swap {c r p q i j : Nat} {l : List Nat} (hl : l.length = r * c) (hp : p < r) (hq : q < r) (hj : j < c) : ent c (swapL c p q l) i j = ent c l (swp p q i) j := by
  unfold ent swapL
  by_cases hpq : p = q
  · subst hpq; rw [swapK_same]; unfold swp; split <;> simp_all
  · have hd : p * c + c ≤ q * c ∨ q * c + c ≤ p * c := by
      rcases Nat.lt_or_gt_of_ne hpq with h | h
      · left; exact row_fits h
      · right; exact row_fits h
    have hg := swapK_get (x := p * c) (y := q * c) (n := c) (l := l) hd (by rw [hl]; exact row_fits hp) (by rw [hl]; exact row_fits hq) j hj
    unfold swp
    by_cases h1 : i = p
    · subst h1; rw [if_pos rfl]; exact hg.1
    · by_cases h2 : i = q
      · subst h2; rw [if_neg h1, if_pos rfl]; exact hg.2
      · rw [if_neg h1, if_neg h2, swapK_far _ _ _ _ _ (row_apart hj h1) (row_apart hj h2)]
theorem ent_lt {c : Nat} {l : List Nat} (h : ∀ x ∈ l, x < 256) (i j : Nat) : ent c l i j < 256 := getD_lt' h _
theorem updL_all {g : Nat → Nat → Nat} {off : Nat} {l : List Nat} (hl : ∀ x ∈ l, x < 256) (hg : ∀ j x, x < 256 → g j x < 256) : ∀ n, ∀ x ∈ updL g off n l, x < 256
  | 0 => hl
  | n + 1 => by
    rw [updL_step]
    intro x hx
    rcases List.mem_or_eq_of_mem_set hx with h | h
    · exact updL_all hl hg n x h
    · rw [h]; exact hg _ _ (getD_lt' (updL_all hl hg n) _)
theorem swapK_all {a b : Nat} {l : List Nat} (hl : ∀ x ∈ l, x < 256) : ∀ n, ∀ x ∈ swapK a b n l, x < 256
  | 0 => hl
  | n + 1 => by
    rw [swapK_succ]
    intro x hx
    rcases List.mem_or_eq_of_mem_set hx with h | h
    · rcases List.mem_or_eq_of_mem_set h with h | h
      · exact swapK_all hl n x h
      · rw [h]; exact getD_lt' (swapK_all hl n) _
    · rw [h]; exact getD_lt' (swapK_all hl n) _
theorem scaleL_all {c k v : Nat} {l : List Nat} (hl : ∀ x ∈ l, x < 256) : ∀ x ∈ scaleL c k v l, x < 256 := updL_all hl (fun _ _ h => Gf.mul_lt _ h) _
theorem addL_all {c k q v : Nat} {l : List Nat} (hl : ∀ x ∈ l, x < 256) : ∀ x ∈ addL c k q v l, x < 256 := updL_all hl (fun _ _ h => Gf.xor_lt h (Gf.mul_lt _ (getD_lt' hl _))) _
theorem swapL_all {c p q : Nat} {l : List Nat} (hl : ∀ x ∈ l, x < 256) : ∀ x ∈ swapL c p q l, x < 256 := swapK_all hl _

/-- Rows cleared: each by its own number in column c. -/
theorem ent_clr {ca co c rk ra : Nat} {M O : List Nat} (hM : M.length = ra * ca) (hO : O.length = ra * co) (hc : c < ca) : ∀ n, n ≤ ra →
    (∀ i j, j < ca → ent ca (clrAll ca co c rk n (M, O)).1 i j = if i < n ∧ i ≠ rk then ent ca M i j ^^^ Gf.mul (ent ca M rk j) (ent ca M i c) else ent ca M i j) ∧
    (∀ i j, j < co → ent co (clrAll ca co c rk n (M, O)).2 i j = if i < n ∧ i ≠ rk then ent co O i j ^^^ Gf.mul (ent co O rk j) (ent ca M i c) else ent co O i j)
  | 0, _ => ⟨fun i j hj => by rw [if_neg (by omega)]; rfl, fun i j hj => by rw [if_neg (by omega)]; rfl⟩
  | n + 1, hn => by
    obtain ⟨ihM, ihO⟩ := ent_clr hM hO hc (rk := rk) n (by omega)
    have hlM := (clrAll_length ca co c rk n (M, O)).1.trans hM
    have hlO := (clrAll_length ca co c rk n (M, O)).2.trans hO
    rw [clrAll_succ, clrStep]
    by_cases hr : n = rk
    · rw [if_pos hr]
      exact ⟨fun i j hj => by
        rw [ihM i j hj]
        by_cases h : i < n ∧ i ≠ rk
        · rw [if_pos h, if_pos (by omega)]
        · rw [if_neg h, if_neg (by omega)], fun i j hj => by
        rw [ihO i j hj]
        by_cases h : i < n ∧ i ≠ rk
        · rw [if_pos h, if_pos (by omega)]
        · rw [if_neg h, if_neg (by omega)]⟩
    · rw [if_neg hr]
      have hco : ent ca (clrAll ca co c rk n (M, O)).1 n c = ent ca M n c := by rw [ihM n c hc, if_neg (by omega)]
      have hcoe : (clrAll ca co c rk n (M, O)).1.getD (n * ca + c) 0 = ent ca M n c := hco
      dsimp only
      rw [hcoe]
      exact ⟨fun i j hj => by
        rw [ent_add hlM (by omega) hj, ihM i j hj, ihM rk j hj, if_neg (show ¬ (rk < n ∧ rk ≠ rk) by omega)]
        by_cases h : i = n
        · subst h; rw [if_pos rfl, if_neg (by omega), if_pos (by omega)]
        · rw [if_neg h]
          by_cases h2 : i < n ∧ i ≠ rk
          · rw [if_pos h2, if_pos (by omega)]
          · rw [if_neg h2, if_neg (by omega)], fun i j hj => by
        rw [ent_add hlO (by omega) hj, ihO i j hj, ihO rk j hj, if_neg (show ¬ (rk < n ∧ rk ≠ rk) by omega)]
        by_cases h : i = n
        · subst h; rw [if_pos rfl, if_neg (by omega), if_pos (by omega)]
        · rw [if_neg h]
          by_cases h2 : i < n ∧ i ≠ rk
          · rw [if_pos h2, if_pos (by omega)]
          · rw [if_neg h2, if_neg (by omega)]⟩
theorem clrAll_all {ca co c rk : Nat} {M O : List Nat} (hM : ∀ x ∈ M, x < 256) (hO : ∀ x ∈ O, x < 256) : ∀ n, (∀ x ∈ (clrAll ca co c rk n (M, O)).1, x < 256) ∧ (∀ x ∈ (clrAll ca co c rk n (M, O)).2, x < 256)
  | 0 => ⟨hM, hO⟩
  | n + 1 => by
    have ih := clrAll_all (ca := ca) (co := co) (c := c) (rk := rk) hM hO n
    rw [clrAll_succ, clrStep]
    split
    · exact ih
    · exact ⟨addL_all ih.1, addL_all ih.2⟩
end Go.Proofs.Ytijcmdcjjcemfaa

/- matrix.turn, walked. -/

namespace Go.Proofs.Ytijcmdcjjcemfaa
open Go.ChangeShapes Go.WideShapes Go.ChangeAt Go.RowKit Go.Joins
set_option linter.unusedVariables false
set_option linter.unusedSimpArgs false

theorem blk_keptM {p : Nat → Prop} {w w' : World} {B : Nat} {ns : List Nat} (h : BytesBlk w B ns) (hB : B < w.heap.size) (k : Kept p w w') (hp : ¬ p B) : BytesBlk w' B ns := fun i hi =>
  ⟨(h i hi).1, by rw [k.cell (d := ⟨B, i, none⟩) hB hp]; exact (h i hi).2.1, by rw [k.frozen (d := ⟨B, i, none⟩) hB hp]; exact (h i hi).2.2⟩
theorem rowV {w : World} {B c i cap : Nat} {ns : List Nat} (h : BytesBlk w B ns) (hB : B < w.heap.size) (hi : (i + 1) * c ≤ ns.length) : BytesV w (.slice (some ⟨B, i * c, none⟩) c cap) (rowN ns c i) := by
  have hl := rowN_length hi
  refine ⟨⟨by simp, _, _, by rw [hl], fun _ => ⟨B, i * c, rfl, hB, fun j u hj => ?_⟩⟩, fun n hn => ?_⟩
  · have hjl : j < (rowN ns c i).length := by simpa using (List.getElem?_eq_some_iff.1 hj).1
    rw [hl] at hjl
    have hj2 : i * c + j < ns.length := by rw [Nat.add_mul, Nat.one_mul] at hi; omega
    rw [(h (i * c + j) hj2).2.1, ← rowN_get (bs := ns) hjl, ← hj]
    simp [List.getD, hl, hjl]
  · obtain ⟨j, hj, rfl⟩ := List.getElem_of_mem hn
    rw [hl] at hj
    rw [List.getElem_eq_getD (fallback := 0), rowN_get hj]
    exact (h (i * c + j) (by rw [Nat.add_mul, Nat.one_mul] at hi; omega)).1

set_option maxRecDepth 100000 in
set_option maxHeartbeats 2000000 in
theorem turn_any (R : Int) (c i q B n k : Nat) (ns : List Nat) (w : World) (h : BytesBlk w B ns) (hB : B < w.heap.size) (hn : n = ns.length) (hc1 : 1 ≤ c) (hc : c ≤ 16) (hi : i ≤ 16) (hq : q ≤ 16) (hin : (i + 1) * c ≤ n) (hqn : (q + 1) * c ≤ n) (hk : n ≤ k) (hk2 : k ≤ 9223372036854775807) (hn2 : n ≤ 256) :
    Calls Try.prog 82 #[matV R (c : Int) (.slice (some ⟨B, 0, none⟩) n k), .int .i64 (i : Int), .int .i64 (q : Int)] w fun e w' => e = .returned (.tuple #[]) ∧ BytesBlk w' B (swapL c i q ns) ∧ Kept (fun j => j = B) w w' := by
  subst hn
  have ht := Three.new w (.int .i64 R) (.int .i64 (c : Int)) (.slice (some ⟨B, 0, none⟩) ns.length k) 55
  have hb0 := (Below.refl w.heap.size w).alloc (Nat.le_refl _) (.cells #[.int .i64 R, .int .i64 (c : Int), .slice (some ⟨B, 0, none⟩) ns.length k] 55)
  have hd0 := blk_below h hB hb0
  have hB0 : B < (w.alloc (.cells #[.int .i64 R, .int .i64 (c : Int), .slice (some ⟨B, 0, none⟩) ns.length k] 55)).heap.size := by simp; omega
  have HBB := Lib.hid hb0
  have HD := Lib.hid hd0
  have HT := Lib.hid ht
  have hBne : B ≠ w.heap.size := by omega
  clear hb0 hd0 ht h
  unfold matV
  by_cases hiq : i = q
  · subst hiq
    go_enter Try.func82, Try.ntmps82
    go_wp2_with fail
    refine bodyPost_end (results_none rfl _ _ _) rfl ?_
    exact ⟨rfl, by rw [swapL, swapK_same]; exact HD.out, Kept.of_below HBB.out⟩
  · have hne : ((i : Int) == (q : Int)) = false := beq_eq_false_iff_ne.2 (by omega)
    go_enter Try.func82, Try.ntmps82
    go_wp2_with fail
    refine (row_any R c i B 0 ns.length k _ hc hc1 hi hin hk hk2).mono ?_
    rintro e w1 ⟨rfl, hb1⟩
    have HB1 := Lib.hid (cum2 HBB.out hb1)
    have HD1 := Lib.hid (blk_below HD.out hB0 hb1)
    have hB1 := Nat.lt_of_lt_of_le hB0 hb1.size
    have HT1 := Lib.hid (HT.out.below hb1)
    clear hb1 HBB HD HT
    have HLT : Hid (∀ x ∈ ns, x < 256) := by
      intro x hx
      obtain ⟨j, hj, rfl⟩ := List.getElem_of_mem hx
      rw [List.getElem_eq_getD (fallback := 0)]; exact (HD1.out j hj).1
    have hrl := rowN_length hin
    have hrlq := rowN_length hqn
    go_wp2_with fail
    refine (clone_any B (i * c) c (k - i * c) (rowN ns c i) w1 (rowV HD1.out hB1 hin) (by omega) (by omega)).mono ?_
    rintro e w2 ⟨r, rfl, hown, hb2⟩
    obtain ⟨g, cap, rfl, hg1, hg2, hg3, hg4, hg5, hblk⟩ := own_blk hown (by omega) (rowN_lt HLT.out)
    have HB2 := Lib.hid (cum2 HB1.out hb2)
    have HD2 := Lib.hid (blk_below HD1.out hB1 hb2)
    have hB2 := Nat.lt_of_lt_of_le hB1 hb2.size
    have HT2 := Lib.hid (HT1.out.below hb2)
    have hgB : g ≠ B := by omega
    have HG := Lib.hid hblk
    rw [hrl]
    clear hb2 hown hblk HB1 HD1 HT1
    go_upto_region 3 with (fail)
    have hbX : Below w2.heap.size w2 w2.drew := Below.drew (Below.refl _ _)
    obtain ⟨a0, a1, a2, _, _, _⟩ := HT2.out
    refine wp_region_held (S := fun W' => Kept (fun j => j = B) w2 W') (by kernel_rfl) ?_
    have hS0 : Kept (fun j => j = B) w2 w2.drew := Kept.drew (Kept.refl _ _)
    change wpAnyH _ _ _ _ _ 7 _ _ w2.drew
    refine wpAnyH_take (i := 0) (v := .agg #[.int .i64 R, .int .i64 (c : Int), .slice (some ⟨B, 0, none⟩) ns.length k]) rfl (by kernel_rfl) (by kernel_rfl) (by kernel_rfl) (fun _ _ _ h => h) (Or.inl ⟨by rfl, fun W' hW' => ?_⟩) hS0 ?_
    · obtain ⟨x0, x1, x2, _, _, _⟩ := HT2.out.below' hW' (by omega)
      go_simp
      try rfl
    try simp only [Act.put, List.setIfInBounds_toArray, List.set_cons_zero, List.set_cons_succ]
    refine wpAnyH_take (i := 1) (v := .int .i64 (i : Int)) rfl (by kernel_rfl) (by kernel_rfl) (by kernel_rfl) (fun _ _ _ h => h) (Or.inl ⟨by rfl, fun W' hW' => ?_⟩) hS0 ?_
    · obtain ⟨x0, x1, x2, _, _, _⟩ := HT2.out.below' hW' (by omega)
      go_simp
      try rfl
    try simp only [Act.put, List.setIfInBounds_toArray, List.set_cons_zero, List.set_cons_succ]
    refine wpAnyH_take (i := 3) (v := .agg #[.int .i64 R, .int .i64 (c : Int), .slice (some ⟨B, 0, none⟩) ns.length k]) rfl (by kernel_rfl) (by kernel_rfl) (by kernel_rfl) (fun _ _ _ h => h) (Or.inl ⟨by rfl, fun W' hW' => ?_⟩) hS0 ?_
    · obtain ⟨x0, x1, x2, _, _, _⟩ := HT2.out.below' hW' (by omega)
      go_simp
      try rfl
    try simp only [Act.put, List.setIfInBounds_toArray, List.set_cons_zero, List.set_cons_succ]
    refine wpAnyH_take (i := 4) (v := .int .i64 (q : Int)) rfl (by kernel_rfl) (by kernel_rfl) (by kernel_rfl) (fun _ _ _ h => h) (Or.inl ⟨by rfl, fun W' hW' => ?_⟩) hS0 ?_
    · obtain ⟨x0, x1, x2, _, _, _⟩ := HT2.out.below' hW' (by omega)
      go_simp
      try rfl
    try simp only [Act.put, List.setIfInBounds_toArray, List.set_cons_zero, List.set_cons_succ]
    refine wpAnyH_ready (rs := [2]) (by kernel_rfl) (by simp) ?_
    refine AllReadyH.cons rfl (fun K hK => ?_) AllReadyH.nil
    rw [if_pos (by rfl)]
    go_simp
    refine (row_any R c i B 0 ns.length k _ hc hc1 hi hin hk hk2).mono ?_
    rintro e w3 ⟨rfl, hb3⟩
    have hb23 := hbX.trans (hb3.mono hbX.size)
    have hS1 : Kept (fun j => j = B) w2 w3 := Kept.of_below hb23
    refine hK.out _ _ hS1 (fun hS1 => ?_)
    clear hK hb3
    try simp only [Act.put, List.setIfInBounds_toArray, List.set_cons_zero, List.set_cons_succ]
    refine wpAnyH_ready (rs := [5]) (by kernel_rfl) (by simp) ?_
    refine AllReadyH.cons rfl (fun K hK => ?_) AllReadyH.nil
    rw [if_pos (by rfl)]
    go_simp
    refine (row_any R c q B 0 ns.length k _ hc hc1 hq hqn hk hk2).mono ?_
    rintro e w4 ⟨rfl, hb4⟩
    have hb24 := hb23.trans (hb4.mono hb23.size)
    have hS2 : Kept (fun j => j = B) w2 w4 := Kept.of_below hb24
    refine hK.out _ _ hS2 (fun hS2 => ?_)
    clear hK hb4
    try simp only [Act.put, List.setIfInBounds_toArray, List.set_cons_zero, List.set_cons_succ]
    have hd4 := blk_below HD2.out hB2 hb24
    have hq2 := hqn
    have hin2 := hin
    rw [Nat.add_mul, Nat.one_mul] at hq2 hin2
    have hcp := copy_run (cs := rowN ns c q) (off := i * c) (bs := B) (os := q * c) (c := c) (cap := k - i * c) (cap' := k - q * c) hd4 hin2 hrlq (fun j hj => by rw [rowN_get hj]; exact (hd4 (q * c + j) (by omega)).2.1)
    refine wpAnyH_ready (rs := [6]) (by kernel_rfl) (by simp) ?_
    refine AllReadyH.cons rfl (fun K hK => ?_) AllReadyH.nil
    rw [if_pos (by rfl)]
    go_simp
    have hd5 : BytesBlk (w4.setCells B (i * c) (u8s (rowN ns c q))) B (putL (i * c) (rowN ns c q) ns) := setCells_blk (rowN ns c q) (i * c) w4 ns hd4 (rowN_lt HLT.out)
    have hS3 := hS2.trans (setCells_kept (B := B) (u8s (rowN ns c q)) (i * c) w4)
    refine hK.out _ _ hS3 (fun hS3 => ?_)
    clear hK hcp hd4 hS0 hS1 hS2 hb23 hb24 hbX
    try simp only [Act.put, List.setIfInBounds_toArray, List.set_cons_zero, List.set_cons_succ]
    refine wpAnyH_done (by kernel_rfl) ?_ _
    generalize w4.setCells B (i * c) (u8s (rowN ns c q)) = w5 at *
    have HT5 := Lib.hid (HT2.out.below' hS3 (by omega))
    have HG5 := Lib.hid (blk_keptM HG.out hg2 hS3 hgB)
    have HD5 := Lib.hid hd5
    have hB5 := Nat.lt_of_lt_of_le hB2 hS3.size
    have hg6 := Nat.lt_of_lt_of_le hg2 hS3.size
    have HK5 := Lib.hid ((Kept.of_below (p := fun j => j = B) HB2.out).trans hS3)
    clear a0 a1 a2 hS3 hd5 HT2 HG HD2
    obtain ⟨a0, a1, a2, _, _, _⟩ := HT5.out
    go_wp2_with fail
    refine (row_any R c q B 0 ns.length k _ hc hc1 hq hqn hk hk2).mono ?_
    rintro e w6 ⟨rfl, hb6⟩
    have hd6 := blk_below HD5.out hB5 hb6
    have hg6' := blk_below HG5.out hg6 hb6
    have hcp := copy_run (cs := rowN ns c i) (off := q * c) (bs := g) (os := 0) (c := c) (cap := k - q * c) (cap' := cap) hd6 (by rw [putL_length]; omega) hrl (fun j hj => by rw [Nat.zero_add]; exact (hg6' j (by omega)).2.1)
    have hd7 : BytesBlk (w6.setCells B (q * c) (u8s (rowN ns c i))) B (putL (q * c) (rowN ns c i) (putL (i * c) (rowN ns c q) ns)) := setCells_blk (rowN ns c i) (q * c) w6 _ hd6 (rowN_lt HLT.out)
    rw [put_swap hiq hin hqn] at hd7
    have HD7 := Lib.hid hd7
    have HK7 := Lib.hid ((HK5.out.trans (Kept.of_below (p := fun j => j = B) hb6)).trans (setCells_kept (B := B) (u8s (rowN ns c i)) (q * c) w6))
    clear hd6 hg6' hd7 hb6
    go_wp2_with fail
    first | refine bodyPost_end (results_none rfl _ _ _) rfl ?_ | refine bodyPost_ret (results_none rfl _ _ _) rfl ?_
    exact ⟨rfl, HD7.out, HK7.out⟩
end Go.Proofs.Ytijcmdcjjcemfaa

/- What a matrix makes of lanes, plainly. -/

namespace Go.Proofs.Ytijcmdcjjcemfaa
open Go.ChangeShapes Go.WideShapes Go.ChangeAt Go.RowKit Go.Joins
set_option linter.unusedVariables false
set_option linter.unusedSimpArgs false

theorem str_extM {a b : ByteArray} (hs : a.size = b.size) (h : ∀ i, i < a.size → byN a i = byN b i) : a = b := by
  apply ByteArray.ext
  apply Array.ext
  · exact hs
  · intro i h1 h2
    have := h i h1
    rw [byN_eq h1, byN_eq h2] at this
    exact UInt8.toNat_inj.1 this
theorem strOf8_bytesM (s : ByteArray) : strOf8 (bytesOf s) = s := by
  apply str_extM
  · rw [strOf8_size, bytesOf_length]
  · intro i hi
    rw [byN_str (bytesOf_lt s), bytesOf_get]
theorem byN_mixM (a b : ByteArray) (c : Nat) {i : Nat} (h : i < a.size) : byN (mixS a b c) i = byN a i ^^^ Gf.mul (byN b i) c := by
  rw [mixS, byN_strOf8 (f := fun i => byN a i ^^^ Gf.mul (byN b i) c) h (Nat.xor_lt_two_pow (n := 8) (byN_lt a i) (Gf.mul_lt c (byN_lt b i)))]
/-- Bytes 0. -/
def zeroN (n : Nat) : ByteArray := strOf8 (List.replicate n 0)
theorem zeroN_size (n : Nat) : (zeroN n).size = n := by rw [zeroN, strOf8_size, List.length_replicate]
theorem bytes_zeroN (n : Nat) : bytesOf (zeroN n) = List.replicate n 0 := bytesOf_strOf8 fun x hx => by rw [List.eq_of_mem_replicate hx]; decide
theorem byN_zeroN (n i : Nat) : byN (zeroN n) i = 0 := by
  rw [zeroN, byN_str fun x hx => by rw [List.eq_of_mem_replicate hx]; decide]
  by_cases h : i < n
  · simp [List.getD, h]
  · simp [List.getD, h]
/-- A lane added to bytes, as a text. -/
theorem intoL_bytes (a s : ByteArray) (c : Nat) : intoL s c 0 a.size (bytesOf a) = bytesOf (mixS a s c) := by
  rw [← intoL_mix, bytesOf_strOf8]
  intro x hx
  obtain ⟨j, hj, rfl⟩ := List.getElem_of_mem hx
  rw [intoL_length, bytesOf_length] at hj
  have := intoL_get s c 0 a.size (bytesOf a) j hj (by rw [bytesOf_length]; omega)
  rw [Nat.zero_add] at this
  rw [List.getElem_eq_getD (fallback := 0), this, bytesOf_get]
  exact Nat.xor_lt_two_pow (n := 8) (byN_lt a j) (Gf.mul_lt c (byN_lt s j))

/-- One row of a matrix applied to lanes of n bytes, of which k were added. -/
def rowLane (ms : List Nat) (l : List ByteArray) (ca n i k : Nat) : ByteArray := (List.range k).foldl (fun s k => mixS s (l.getD k ByteArray.empty) (ms.getD (i * ca + k) 0)) (zeroN n)
theorem rowLane_zero (ms : List Nat) (l : List ByteArray) (ca n i : Nat) : rowLane ms l ca n i 0 = zeroN n := rfl
theorem rowLane_succ (ms : List Nat) (l : List ByteArray) (ca n i k : Nat) : rowLane ms l ca n i (k + 1) = mixS (rowLane ms l ca n i k) (l.getD k ByteArray.empty) (ms.getD (i * ca + k) 0) := by
  rw [rowLane, List.range_succ, List.foldl_append]; rfl
theorem rowLane_size (ms : List Nat) (l : List ByteArray) (ca n i k : Nat) : (rowLane ms l ca n i k).size = n := by
  induction k with
  | zero => rw [rowLane_zero, zeroN_size]
  | succ k ih => rw [rowLane_succ, mixS_size, ih]
/-- All rows. -/
def applyL (ms : List Nat) (l : List ByteArray) (ra ca n : Nat) : List ByteArray := (List.range ra).map fun i => rowLane ms l ca n i ca
theorem applyL_length (ms : List Nat) (l : List ByteArray) (ra ca n : Nat) : (applyL ms l ra ca n).length = ra := by simp [applyL]
/-- One byte of what a row makes. -/
theorem rowLane_byte (ms : List Nat) (l : List ByteArray) (ca n i : Nat) {p : Nat} (hp : p < n) : ∀ k, byN (rowLane ms l ca n i k) p = (List.range k).foldl (fun x k => x ^^^ Gf.mul (byN (l.getD k ByteArray.empty) p) (ms.getD (i * ca + k) 0)) 0
  | 0 => by rw [rowLane_zero, byN_zeroN]; rfl
  | k + 1 => by
    rw [rowLane_succ, byN_mixM _ _ _ (by rw [rowLane_size]; exact hp), rowLane_byte ms l ca n i hp k, List.range_succ, List.foldl_append]
    rfl
end Go.Proofs.Ytijcmdcjjcemfaa
