/- A matrix's rows, ranged over: what the iterator promises. -/
import Derived.Test.YtijcmdcjjcemfaaPkA03
import Derived.RangeFuncFrom
import Derived.RangeFuncMany
import Derived.RangeFuncNested
import Derived.RangeFuncBound
import Derived.RangeFuncCalls
import Derived.RangeFuncLeaves
import Derived.Shelf.Abstract
import Derived.Shelf.RegionOpen
import Derived.OwnWalkIn
import Derived.TacticsInMore
import Derived.LoopNIn
import Derived.LoopIn
namespace Go.Proofs.Ytijcmdcjjcemfaa
open Go.ChangeShapes Go.WideShapes Go.ChangeAt Go.RowKit Go.Joins Go.Shelf
set_option linter.unusedVariables false
set_option linter.unusedSimpArgs false
attribute [local go_sem] Oper.semAt_some

set_option maxRecDepth 100000 in
set_option maxHeartbeats 400000 in
theorem row_alloc (R : Int) (c i b o n k : Nat) (w : World) (hc : c ≤ 16) (hc1 : 1 ≤ c) (hi : i ≤ 16) (hn : (i + 1) * c ≤ n) (hk : n ≤ k) (hk2 : k ≤ 9223372036854775807) :
    Calls Try.prog 73 #[matV R (c : Int) (.slice (some ⟨b, o, none⟩) n k), .int .i64 (i : Int)] w fun e w' => e = .returned (.slice (some ⟨b, o + i * c, none⟩) c (k - i * c)) ∧ w' = w.alloc (.cells #[.int .i64 R, .int .i64 (c : Int), .slice (some ⟨b, o, none⟩) n k] 55) := by
  obtain ⟨x, hx⟩ : ∃ x, x = i * c := ⟨_, rfl⟩
  obtain ⟨y, hy⟩ : ∃ y, y = (i + 1) * c := ⟨_, rfl⟩
  have hyx : y = x + c := by rw [hy, hx, Nat.add_mul, Nat.one_mul]
  have h1 : (i : Int) * (c : Int) = (x : Int) := by rw [hx]; simp
  have h2 : ((i : Int) + 1) * (c : Int) = (y : Int) := by rw [hy]; simp
  rw [← hy] at hn
  rw [← hx]
  have hxs : x ≤ 16 * 16 := by rw [hx]; exact Nat.mul_le_mul hi hc
  have h4 : (0 : Int) ≤ (x : Int) := by omega
  have h5 : (x : Int) ≤ (y : Int) := by omega
  have h6 : (y : Int) ≤ (k : Int) := by omega
  have w1 : IntKind.i64.wrap (x : Int) = (x : Int) := IntWalk.i64_in _ (by omega)
  have w2 : IntKind.i64.wrap (y : Int) = (y : Int) := IntWalk.i64_in _ (by omega)
  have w3 : IntKind.i64.wrap ((i : Int) + 1) = (i : Int) + 1 := IntWalk.i64_in _ (by omega)
  clear hx hy
  unfold matV
  go_enter Try.func73, Try.ntmps73
  go_wp2_with fail
  all_goals
    first
      | (exfalso; omega)
      | (go_ret
         exact ⟨by show Ending.returned (Value.slice _ (x + c - x) (k - x)) = _; rw [Nat.add_sub_cancel_left], rfl⟩)

set_option maxRecDepth 100000 in
set_option maxHeartbeats 400000 in
theorem rows_any (R C : Int) (A : Option Addr) (n k : Nat) (w : World) :
    Calls Try.prog 58 #[matV R C (.slice A n k)] w fun e w' => e = .returned (.func (.func 77) #[] #[.pointer (some ⟨w.heap.size, 0, none⟩)]) ∧ w' = w.alloc (.cells #[.int .i64 R, .int .i64 C, .slice A n k] 55) := by
  unfold matV
  go_enter Try.func58, Try.ntmps58
  go_wp2_with fail
  go_ret
  exact ⟨rfl, rfl⟩

/-- The numbers below j, each of them below r. -/
def finL (r : Nat) : (j : Nat) → j ≤ r → List (Fin r)
  | 0, _ => []
  | j + 1, h => finL r j (by omega) ++ [⟨j, by omega⟩]
theorem finL_val (r : Nat) : ∀ (j : Nat) (h : j ≤ r), (finL r j h).map Fin.val = List.range j
  | 0, _ => rfl
  | j + 1, h => by rw [finL, List.map_append, finL_val r j, List.range_succ]; rfl
theorem finL_length (r : Nat) : ∀ (j : Nat) (h : j ≤ r), (finL r j h).length = j
  | 0, _ => rfl
  | j + 1, h => by rw [finL, List.length_append, finL_length r j]; rfl
/-- What the iterator hands out: a row's number, the row. -/
abbrev encRow (b o c k : Nat) {r : Nat} (i : Fin r) : Array Value := #[.int .i64 (i.1 : Int), .slice (some ⟨b, o + i.1 * c, none⟩) c (k - i.1 * c)]
/-- What a round must keep: the iterator's box. -/
def KeepsBox (Bn : Nat) (W W' : World) : Prop := W.heap.size ≤ W'.heap.size ∧ W'.heap[Bn]? = W.heap[Bn]?
theorem keepsBox_t {Bn : Nat} {A B C : World} (h : KeepsBox Bn A B) (k : KeepsBox Bn B C) : KeepsBox Bn A C := ⟨Nat.le_trans h.1 k.1, k.2.trans h.2⟩
theorem keepsBox_b {Bn : Nat} {w : World} (hB : Bn < w.heap.size) (W : World) (l : Nat) (o o' : Obj) (hl : w.heap.size ≤ l) (_ : W.heap[l]? = some o) (_ : o.isCells = false) (_ : o.isWalk = false) : KeepsBox Bn W (W.putObj l o') :=
  ⟨by simp [World.putObj], World.putObj_heap_other (by omega)⟩
theorem three_of {w W : World} {B : Nat} {a b c : Value} (h : Three w B a b c) (hk : W.heap[B]? = w.heap[B]?) : Three W B a b c :=
  ⟨by rw [World.cell?_of_block (w := w) (a := ⟨B, 0, none⟩) hk]; exact h.c0, by rw [World.cell?_of_block (w := w) (a := ⟨B, 1, none⟩) hk]; exact h.c1, by rw [World.cell?_of_block (w := w) (a := ⟨B, 2, none⟩) hk]; exact h.c2,
    by rw [World.frozen?_of_block (w := w) (a := ⟨B, 0, none⟩) hk]; exact h.f0, by rw [World.frozen?_of_block (w := w) (a := ⟨B, 1, none⟩) hk]; exact h.f1, by rw [World.frozen?_of_block (w := w) (a := ⟨B, 2, none⟩) hk]; exact h.f2⟩

set_option maxRecDepth 100000 in
set_option maxHeartbeats 1000000 in
theorem rows1_stops (Bn r c b o n k : Nat) (w : World) (hBn : Bn < w.heap.size) (hT : Three w Bn (.int .i64 (r : Int)) (.int .i64 (c : Int)) (.slice (some ⟨b, o, none⟩) n k)) (hr : r ≤ 16) (hc : c ≤ 16) (hc1 : 1 ≤ c) (hn : r * c ≤ n) (hk : n ≤ k) (hk2 : k ≤ 9223372036854775807) :
    SeqStopsK Fence.wide 9 Try.prog 77 #[.pointer (some ⟨Bn, 0, none⟩)] (encRow b o c k (r := r)) (KeepsBox Bn) (fun xs => xs = finL r r (Nat.le_refl r)) (fun pre => ∃ j, ∃ h : j ≤ r, pre = finL r j h) r w := fun l J Jx W hW hJa _ hY h0 => by
  have hBW : W.heap[Bn]? = w.heap[Bn]? := hW.block Bn hBn
  have HT := Lib.hid hT
  obtain ⟨a0, a1, a2, _, _, _⟩ := three_of hT hBW
  have HBW := Lib.hid hBW
  have hBW2 := Nat.lt_of_lt_of_le hBn hW.size
  clear hBW hT hW
  refine callsIn_of_wp Try.func77 rfl trivial ?_ rfl
  simp only [Try.ntmps77, List.size_toArray, List.length_cons, List.length_nil, Nat.reduceAdd, Nat.reduceSub, Array.replicate_succ, Array.replicate_zero, List.push_toArray, List.append_toArray, List.nil_append, List.cons_append]
  gi_wp2
  clear a0 a1 a2
  gi_loopw [3, 6] (fun x i wr => ∃ (j : Nat) (hj : j ≤ r), i = .int .i64 j ∧ J (finL r j hj) wr ∧ Hid (wr.heap[Bn]? = w.heap[Bn]?) ∧ W.heap.size ≤ wr.heap.size) (fun _ i _ => r - (intOf i).toNat)
  case atStart => exact ⟨0, by omega, rfl, h0, HBW, Nat.le_refl _⟩
  case round =>
    obtain ⟨j, hj, rfl, hJ, HB, hsz⟩ := hrel
    by_cases hjr : j < r
    · obtain ⟨a0, a1, a2, _, _, _⟩ := three_of HT.out HB.out
      have hjm : (j + 1) * c ≤ n := Nat.le_trans (Nat.mul_le_mul_right c hjr) hn
      have hJ1 := hJa _ wr (wr.alloc (.cells #[.int .i64 (r : Int), .int .i64 (c : Int), .slice (some ⟨b, o, none⟩) n k] 55)) none hJ (World.grownBy_alloc wr _ none) (fun r e => by cases e)
      obtain ⟨fn, tmps, assign, body, hy, hR⟩ := hY (finL r j hj) ⟨j, hjr⟩ _ hJ1 (by rw [finL_length]; exact hjr)
      dsimp only [encRow] at hy
      have hB2 : Hid ((wr.alloc (.cells #[.int .i64 (r : Int), .int .i64 (c : Int), .slice (some ⟨b, o, none⟩) n k] 55)).heap[Bn]? = w.heap[Bn]?) := by
        rw [Hid, Below.heap_alloc _ _ _ (by omega)]; exact HB.out
      have hsz2 : W.heap.size ≤ (wr.alloc (.cells #[.int .i64 (r : Int), .int .i64 (c : Int), .slice (some ⟨b, o, none⟩) n k] 55)).heap.size := by simp; omega
      gi_wp2_with (refine ⟨trivial, ?_⟩; gi_at_call 73; refine (callsIn_wide.2 (row_alloc (r : Int) c j b o n k _ hc hc1 (by omega) hjm hk hk2)).mono ?_; rintro e w' ⟨rfl, rfl⟩)
      clear hJ HB hsz a0 a1 a2
      refine hR.mono ?_
      rintro e W3 (⟨rfl, hJ3, hk3⟩ | ⟨rfl, hJx3⟩)
      · have HB3 : Hid (W3.heap[Bn]? = w.heap[Bn]?) := Lib.hid (hk3.2.trans hB2.out)
        have hsz3 := Nat.le_trans hsz2 hk3.1
        clear hk3 hB2 hsz2 hJ1
        gi_wp2
        go_roundw
        case rel => exact ⟨j + 1, by omega, by go_num, hJ3, HB3, hsz3⟩
        case measure => simp [intOf]; omega
      · gi_wp2
        refine bodyPost_ret (results_none rfl _ _ _) rfl ?_
        exact ⟨⟨_, rfl⟩, .inr ⟨finL r (j + 1) hjr, ⟨_, hjr, rfl⟩, hJx3⟩⟩
    · obtain rfl : j = r := by omega
      gi_wp2
      go_end0
      exact ⟨⟨_, rfl⟩, .inl ⟨_, rfl, hJ⟩⟩
end Go.Proofs.Ytijcmdcjjcemfaa

/- matrix.One, walked. -/

namespace Go.Proofs.Ytijcmdcjjcemfaa
open Go.ChangeShapes Go.WideShapes Go.ChangeAt Go.RowKit Go.Joins Go.Shelf
set_option linter.unusedVariables false
set_option linter.unusedSimpArgs false
attribute [local go_sem] Oper.semAt_some

/-- The matrix that changes nothing, of which j rows were laid. -/
def oneL (n j : Nat) : List Nat := (List.range j).foldl (fun l i => l.set (i * n + i) 1) (List.replicate (n * n) 0)
theorem oneL_zero (n : Nat) : oneL n 0 = List.replicate (n * n) 0 := rfl
theorem oneL_succ (n j : Nat) : oneL n (j + 1) = (oneL n j).set (j * n + j) 1 := by rw [oneL, List.range_succ, List.foldl_append]; rfl
theorem oneL_length (n j : Nat) : (oneL n j).length = n * n := by
  induction j with
  | zero => rw [oneL_zero, List.length_replicate]
  | succ j ih => rw [oneL_succ, List.length_set, ih]

def oneF (n : Nat) (pre : List (Fin n)) : List Nat := pre.foldl (fun l i => l.set (i.1 * n + i.1) 1) (List.replicate (n * n) 0)
theorem oneF_snoc (n : Nat) (pre : List (Fin n)) (i : Fin n) : oneF n (pre ++ [i]) = (oneF n pre).set (i.1 * n + i.1) 1 := by rw [oneF, List.foldl_append]; rfl
theorem oneF_all (n : Nat) : oneF n (finL n n (Nat.le_refl n)) = oneL n n := by
  rw [oneL, ← finL_val n n (Nat.le_refl n), List.foldl_map]; rfl
theorem oneF_length (n : Nat) (pre : List (Fin n)) : (oneF n pre).length = n * n := by
  have h : ∀ (pre : List (Fin n)) (l : List Nat), (pre.foldl (fun l i => l.set (i.1 * n + i.1) 1) l).length = l.length := by
    intro pre
    induction pre with
    | nil => intro l; rfl
    | cons i pre ih => intro l; rw [List.foldl_cons, ih, List.length_set]
  rw [oneF, h, List.length_replicate]
theorem row_in {n i j : Nat} (hi : i < n) (hj : j < n) : i * n + j < n * n := by
  have : (i + 1) * n ≤ n * n := Nat.mul_le_mul_right n hi
  rw [Nat.add_mul, Nat.one_mul] at this
  omega

theorem blk_grown {W W' : World} {row : Option Nat} {B : Nat} {ns : List Nat} (h : BytesBlk W B ns) (hg : W.grownBy W' row) (hr : ∀ r, row = some r → ∃ o : Obj, W.heap[r]? = some o ∧ o.isCells = false) : BytesBlk W' B ns := fun i hi =>
  ⟨(h i hi).1, cell_kept (h i hi).2.1 hg hr, (frozen_kept (h i hi).2.1 hg hr).trans (h i hi).2.2⟩
theorem three_grown {W W' : World} {row : Option Nat} {B : Nat} {a b c : Value} (h : Three W B a b c) (hg : W.grownBy W' row) (hr : ∀ r, row = some r → ∃ o : Obj, W.heap[r]? = some o ∧ o.isCells = false) : Three W' B a b c :=
  ⟨cell_kept h.c0 hg hr, cell_kept h.c1 hg hr, cell_kept h.c2 hg hr, (frozen_kept h.c0 hg hr).trans h.f0, (frozen_kept h.c1 hg hr).trans h.f1, (frozen_kept h.c2 hg hr).trans h.f2⟩
theorem blk_below {w w' : World} {B : Nat} {ns : List Nat} (h : BytesBlk w B ns) (hB : B < w.heap.size) (hb : Below w.heap.size w w') : BytesBlk w' B ns := fun i hi => by
  have k := Kept.of_below (p := fun _ => False) hb
  exact ⟨(h i hi).1, by rw [k.cell (d := ⟨B, i, none⟩) hB id]; exact (h i hi).2.1, by rw [k.frozen (d := ⟨B, i, none⟩) hB id]; exact (h i hi).2.2⟩
theorem three_cell {w : World} {B : Nat} {a b c u : Value} (h : Three w B a b c) {d : Addr} (hd : d.block ≠ B) : Three (w.setCell d u) B a b c := by
  have k : ∀ j, (⟨B, j, none⟩ : Addr) ≠ d := fun j e => hd (by rw [← e])
  exact ⟨by rw [World.cell?_setCell_other _ _ _ _ (Ne.symm (k 0))]; exact h.c0, by rw [World.cell?_setCell_other _ _ _ _ (Ne.symm (k 1))]; exact h.c1, by rw [World.cell?_setCell_other _ _ _ _ (Ne.symm (k 2))]; exact h.c2,
    by rw [World.frozen?_setCell]; exact h.f0, by rw [World.frozen?_setCell]; exact h.f1, by rw [World.frozen?_setCell]; exact h.f2⟩

theorem blk_cell {w : World} {B : Nat} {ns : List Nat} {u : Value} (h : BytesBlk w B ns) {d : Addr} (hd : d.block ≠ B) : BytesBlk (w.setCell d u) B ns := fun i hi => by
  have k : d ≠ (⟨B, i, none⟩ : Addr) := fun e => hd (by rw [e])
  exact ⟨(h i hi).1, by rw [World.cell?_setCell_other _ _ _ _ k]; exact (h i hi).2.1, by rw [World.frozen?_setCell]; exact (h i hi).2.2⟩
/-- A struct of three stored. -/
theorem three_put {w : World} {B : Nat} {a b c : Value} (h : Three w B a b c) (a' b' c' : Value) : Three (((w.setCell ⟨B, 0, none⟩ a').setCell ⟨B, 1, none⟩ b').setCell ⟨B, 2, none⟩ c') B a' b' c' := by
  refine ⟨?_, ?_, ?_, by simp only [World.frozen?_setCell]; exact h.f0, by simp only [World.frozen?_setCell]; exact h.f1, by simp only [World.frozen?_setCell]; exact h.f2⟩
  · rw [World.cell?_setCell_other _ _ _ _ (by simp), World.cell?_setCell_other _ _ _ _ (by simp)]
    exact World.cell?_setCell_same' _ _ _ (by rw [h.c0]; rfl)
  · rw [World.cell?_setCell_other _ _ _ _ (by simp)]
    exact World.cell?_setCell_same' _ _ _ (by rw [World.cell?_setCell_other _ _ _ _ (by simp), h.c1]; rfl)
  · exact World.cell?_setCell_same' _ _ _ (by rw [World.cell?_setCell_other _ _ _ _ (by simp), World.cell?_setCell_other _ _ _ _ (by simp), h.c2]; rfl)

set_option maxRecDepth 100000 in
set_option maxHeartbeats 2000000 in
theorem one_in (n : Nat) (h1 : 1 ≤ n) (h2 : n ≤ 16) (w : World) :
    CallsIn Fence.wide 10 Try.prog 74 #[.int .i64 (n : Int)] w fun e W' =>
      ∃ B, w.heap.size ≤ B ∧ B < W'.heap.size ∧ e = .returned (.tuple #[matV (n : Int) (n : Int) (.slice (some ⟨B, 0, none⟩) (n * n) (n * n)), .int .i64 0]) ∧ BytesBlk W' B (oneL n n) ∧ Below w.heap.size w W' := by
  have HS := Lib.hid (decide_eq_true (show 1 ≤ (n : Int) ∧ (n : Int) ≤ 16 by omega))
  have hr0 := Three.new w (.int .i64 0) (.int .i64 0) (.slice none 0 0) 55
  have hbe0 := (Below.refl w.heap.size w).alloc (Nat.le_refl _) (.cells #[.int .i64 0, .int .i64 0, .slice none 0 0] 55)
  have HR0 := Lib.hid hr0
  have HBE0 := Lib.hid hbe0
  clear hr0 hbe0
  refine callsIn_of_wp_marks Try.func74 rfl trivial ?_ rfl
  simp only [Try.ntmps74, List.size_toArray, List.length_cons, List.length_nil, Nat.reduceAdd, Nat.reduceSub, Array.replicate_succ, Array.replicate_zero, List.push_toArray, List.append_toArray, List.nil_append, List.cons_append]
  gi_wp2_with (first | (refine ⟨trivial, ?_⟩; gi_at_call 71; refine (callsIn_wide.2 (side_is _ true HS.out _)).mono ?_; rintro e w' ⟨rfl, rfl⟩))
  refine ⟨trivial, ?_⟩
  refine (callsIn_wide.2 (empty_any n n _ h2 h2)).mono ?_
  rintro e W1 ⟨B, hB1, hB2, rfl, hblk, hbe⟩
  have hR1 := HR0.out.below hbe
  have hbe1 := cum2 HBE0.out hbe
  rw [World.size_alloc] at hB1
  have hR2 := (hR1.alloc (.cells #[.int .i64 (n : Int), .int .i64 (n : Int), .slice (some ⟨B, 0, none⟩) (n * n) (n * n)] 55)).alloc (.cells #[.int .i64 (n : Int), .int .i64 (n : Int), .slice (some ⟨B, 0, none⟩) (n * n) (n * n)] 55)
  have hM2 := (Three.new W1 (.int .i64 (n : Int)) (.int .i64 (n : Int)) (.slice (some ⟨B, 0, none⟩) (n * n) (n * n)) 55).alloc (.cells #[.int .i64 (n : Int), .int .i64 (n : Int), .slice (some ⟨B, 0, none⟩) (n * n) (n * n)] 55)
  have hX2 := Three.new (W1.alloc (.cells #[.int .i64 (n : Int), .int .i64 (n : Int), .slice (some ⟨B, 0, none⟩) (n * n) (n * n)] 55)) (.int .i64 (n : Int)) (.int .i64 (n : Int)) (.slice (some ⟨B, 0, none⟩) (n * n) (n * n)) 55
  have hb12 := ((Below.refl W1.heap.size W1).alloc (Nat.le_refl _) (.cells #[.int .i64 (n : Int), .int .i64 (n : Int), .slice (some ⟨B, 0, none⟩) (n * n) (n * n)] 55)).alloc (by simp) (.cells #[.int .i64 (n : Int), .int .i64 (n : Int), .slice (some ⟨B, 0, none⟩) (n * n) (n * n)] 55)
  have hblk2 := blk_below hblk hB2 hb12
  have hbe2 := cum2 hbe1 hb12
  rw [World.size_alloc] at hX2
  have HR2 := Lib.hid hR2
  have HM2 := Lib.hid hM2
  have HX2 := Lib.hid hX2
  have HK2 := Lib.hid hblk2
  have HBE := Lib.hid hbe2
  clear hR1 hR2 hM2 hX2 hb12 hblk hblk2 hbe hbe1 hbe2 HR0 HBE0
  unfold matV
  gi_wp2_with (first | (refine ⟨trivial, ?_⟩; gi_at_call 58; refine (callsIn_wide.2 (rows_any (n : Int) (n : Int) (some ⟨B, 0, none⟩) (n * n) (n * n) _)).mono ?_; rintro e w' ⟨rfl, rfl⟩))
  have hbn : (W1.heap.size + 1) < ((W1.alloc (.cells #[.int .i64 (n : Int), .int .i64 (n : Int), .slice (some ⟨B, 0, none⟩) (n * n) (n * n)] 55)).alloc (.cells #[.int .i64 (n : Int), .int .i64 (n : Int), .slice (some ⟨B, 0, none⟩) (n * n) (n * n)] 55)).heap.size := by simp
  have hnn : n * n ≤ 16 * 16 := Nat.mul_le_mul h2 h2
  generalize (W1.alloc (.cells #[.int .i64 (n : Int), .int .i64 (n : Int), .slice (some ⟨B, 0, none⟩) (n * n) (n * n)] 55)).alloc (.cells #[.int .i64 (n : Int), .int .i64 (n : Int), .slice (some ⟨B, 0, none⟩) (n * n) (n * n)] 55) = W3 at *
  generalize W1.heap.size = Bm at *
  refine wpIn_rangeFunc_ownF (encs := encRow B 0 n (n * n)) rfl (by omega) (gf := 77) (lb := #[.pointer (some ⟨Bm + 1, 0, none⟩)]) rfl trivial (enters_of Try.func77 (by kernel_rfl) rfl)
    (rows1_stops (Bm + 1) n n B 0 (n * n) (n * n) W3 hbn HX2.out h2 h2 h1 (Nat.le_refl _) (Nat.le_refl _) (by omega)) keepsBox_t (keepsBox_b hbn) (Below.refl _ _) (fun _ => rfl)
    (fun pre W => (BytesBlk W B (oneF n pre) ∧ Three W Bm (.int .i64 (n : Int)) (.int .i64 (n : Int)) (.slice (some ⟨B, 0, none⟩) (n * n) (n * n)) ∧ Three W w.heap.size (.int .i64 0) (.int .i64 0) (.slice none 0 0)) ∧ Below w.heap.size w W)
    (fun _ _ _ => False)
    (OwnFrom.and (fun s A A' row hs hg hr => ⟨blk_grown hs.1 hg (fun r e => (hr r e).2), three_grown hs.2.1 hg (fun r e => (hr r e).2), three_grown hs.2.2 hg (fun r e => (hr r e).2)⟩) (ownFrom_below (Nat.le_refl _) (by omega)))
    (fun _ s A A' row hs _ _ => hs)
    ⟨⟨HK2.out, HM2.out, HR2.out⟩, HBE.out⟩
    (fun x => { tmps := #[.int .i64 (n : Int), undef, .pointer (some ⟨w.heap.size, 0, none⟩), .int .i64 0, .pointer (some ⟨Bm, 0, none⟩), .int .i64 (x.1 : Int), .slice (some ⟨B, x.1 * n, none⟩) n (n * n - x.1 * n), .int .i64 (n : Int), .bool true, .bool false, undef, .int .i64 (n : Int), .int .i64 (n : Int), matV (n : Int) (n : Int) (.slice (some ⟨B, 0, none⟩) (n * n) (n * n)), matV (n : Int) (n : Int) (.slice (some ⟨B, 0, none⟩) (n * n) (n * n)), .func (.func 77) #[] #[.pointer (some ⟨Bm + 1, 0, none⟩)], .int .i64 (x.1 : Int), .slice (some ⟨B, x.1 * n, none⟩) n (n * n - x.1 * n), undef, undef, undef, undef], defers := [] }) ?assign ?body ?done ?stop
  case assign =>
    intro l x W K hK
    gi_wp2
    exact hK
  case body =>
    rintro l pre x W ⟨⟨hb, hm, hr⟩, hbe⟩ _
    obtain ⟨x, hx⟩ := x
    obtain ⟨c1, c2, c3⟩ := hb (x * n + x) (by rw [oneF_length]; exact row_in hx hx)
    have i0 : (0 : Int) ≤ (x : Int) := by omega
    have i1 : (x : Int) < (n : Int) := by omega
    gi_wp2
    exact ⟨KeepsOthers.setCell _ _ _, ⟨Nat.le_of_eq (World.size_setCell _ _ _).symm, Below.heap_setCell _ _ _ _ (by dsimp only; omega)⟩, ⟨by rw [oneF_snoc]; exact hb.next (by decide), three_cell hm (by dsimp only; omega), three_cell hr (by dsimp only; omega)⟩, hbe.setCell (p := ⟨B, x * n + x, none⟩) (by dsimp only; omega) _⟩
  case done =>
    rintro D xs W hD rfl ⟨⟨hb, hm, hr⟩, hbe⟩ hK
    rw [oneF_all] at hb
    obtain ⟨m0, m1, m2, mf0, mf1, mf2⟩ := hm
    have HR := Lib.hid hr
    obtain ⟨r0, r1, r2, rf0, rf1, rf2⟩ := hr
    gi_wp2
    have hK1 := ((KeepsOthers.setCell W ⟨w.heap.size, 0, none⟩ (.int .i64 (n : Int))).trans ((KeepsOthers.setCell _ ⟨w.heap.size, 1, none⟩ (.int .i64 (n : Int))).trans (KeepsOthers.setCell _ ⟨w.heap.size, 2, none⟩ (.slice (some ⟨B, 0, none⟩) (n * n) (n * n))))).same D _ hK rfl
    have hDW := (Array.getElem?_eq_some_iff.1 hK).1
    have ht := three_put HR.out (.int .i64 (n : Int)) (.int .i64 (n : Int)) (.slice (some ⟨B, 0, none⟩) (n * n) (n * n))
    have hu := blk_cell (blk_cell (blk_cell hb (d := ⟨w.heap.size, 0, none⟩) (u := .int .i64 (n : Int)) (by dsimp only; omega)) (d := ⟨w.heap.size, 1, none⟩) (u := .int .i64 (n : Int)) (by dsimp only; omega)) (d := ⟨w.heap.size, 2, none⟩) (u := .slice (some ⟨B, 0, none⟩) (n * n) (n * n)) (by dsimp only; omega)
    have hx := ((hbe.setCell (p := ⟨w.heap.size, 0, none⟩) (by simp) (.int .i64 (n : Int))).setCell (p := ⟨w.heap.size, 1, none⟩) (by simp) (.int .i64 (n : Int))).setCell (p := ⟨w.heap.size, 2, none⟩) (by simp) (.slice (some ⟨B, 0, none⟩) (n * n) (n * n))
    have hsz : (((W.setCell ⟨w.heap.size, 0, none⟩ (.int .i64 (n : Int))).setCell ⟨w.heap.size, 1, none⟩ (.int .i64 (n : Int))).setCell ⟨w.heap.size, 2, none⟩ (.slice (some ⟨B, 0, none⟩) (n * n) (n * n))).heap.size = W.heap.size := by simp only [World.size_setCell]
    clear m0 m1 m2 mf0 mf1 mf2 r0 r1 r2 rf0 rf1 rf2 hb hbe HR
    generalize ((W.setCell ⟨w.heap.size, 0, none⟩ (.int .i64 (n : Int))).setCell ⟨w.heap.size, 1, none⟩ (.int .i64 (n : Int))).setCell ⟨w.heap.size, 2, none⟩ (.slice (some ⟨B, 0, none⟩) (n * n) (n * n)) = U at *
    refine ⟨by simp, .inl ⟨_, _, rfl, run_takeDeferred hK1, ?_⟩⟩
    obtain ⟨t0, t1, t2, _, _, _⟩ := three_grown ht (grownBy_putObj' U D (.deferred none)) (fun r e => by cases e; exact ⟨_, hK1, rfl⟩)
    refine ⟨.tuple #[matV (n : Int) (n : Int) (.slice (some ⟨B, 0, none⟩) (n * n) (n * n)), .int .i64 0], ?_, B, by omega, by simp [World.putObj]; omega, rfl, blk_grown hu (grownBy_putObj' U D (.deferred none)) (fun r e => by cases e; exact ⟨_, hK1, rfl⟩), hx.trans (belowK_b (w := W3) (by have := HBE.out.size; omega) U D _ _ hD hK1 rfl rfl)⟩
    simp [results, Try.f74, go_sem, matV, t0, t1, t2]
  case stop =>
    rintro D c pre W _ _ h _
    exact h.elim
end Go.Proofs.Ytijcmdcjjcemfaa

/- Products of matrices, plainly. -/

namespace Go.Proofs.Ytijcmdcjjcemfaa
open Go.ChangeShapes Go.WideShapes Go.ChangeAt Go.RowKit Go.Joins
set_option linter.unusedVariables false
set_option linter.unusedSimpArgs false

/-- A row's bytes. -/
def rowN (bs : List Nat) (c k : Nat) : List Nat := (bs.drop (k * c)).take c
theorem rowN_length {bs : List Nat} {c k : Nat} (h : (k + 1) * c ≤ bs.length) : (rowN bs c k).length = c := by
  rw [Nat.add_mul, Nat.one_mul] at h
  rw [rowN, List.length_take, List.length_drop]; omega
theorem rowN_get {bs : List Nat} {c k i : Nat} (h : i < c) : (rowN bs c k).getD i 0 = bs.getD (k * c + i) 0 := by
  simp [rowN, List.getD, List.getElem?_take, h]
theorem rowN_lt {bs : List Nat} {c k : Nat} (h : ∀ x ∈ bs, x < 256) : ∀ x ∈ rowN bs c k, x < 256 := fun x hx => h x (List.mem_of_mem_drop (List.mem_of_mem_take hx))
def rowS (bs : List Nat) (c k : Nat) : ByteArray := strOf8 (rowN bs c k)
theorem rowS_size {bs : List Nat} {c k : Nat} (h : (k + 1) * c ≤ bs.length) : (rowS bs c k).size = c := by rw [rowS, strOf8_size, rowN_length h]
theorem byN_str {ns : List Nat} (h : ∀ x ∈ ns, x < 256) (i : Nat) : byN (strOf8 ns) i = ns.getD i 0 := by
  rw [← bytesOf_get, bytesOf_strOf8 h]
theorem byN_rowS {bs : List Nat} {c k i : Nat} (hb : ∀ x ∈ bs, x < 256) (h : i < c) : byN (rowS bs c k) i = bs.getD (k * c + i) 0 := by
  rw [rowS, byN_str (rowN_lt hb), rowN_get h]

/-- One entry of a product, of which j products were added. -/
def dotK (ms bs : List Nat) (ca cb i q j : Nat) : Nat := (List.range j).foldl (fun x j => x ^^^ Gf.mul (ms.getD (i * ca + j) 0) (bs.getD (j * cb + q) 0)) 0
theorem dotK_zero (ms bs : List Nat) (ca cb i q : Nat) : dotK ms bs ca cb i q 0 = 0 := rfl
theorem dotK_succ (ms bs : List Nat) (ca cb i q j : Nat) : dotK ms bs ca cb i q (j + 1) = dotK ms bs ca cb i q j ^^^ Gf.mul (ms.getD (i * ca + j) 0) (bs.getD (j * cb + q) 0) := by
  rw [dotK, List.range_succ, List.foldl_append]; rfl
theorem getD_lt' {ns : List Nat} (h : ∀ x ∈ ns, x < 256) (i : Nat) : ns.getD i 0 < 256 := by
  by_cases hi : i < ns.length
  · exact getD_lt h hi
  · simp [List.getD, hi]
theorem dotK_lt {ms bs : List Nat} (ha : ∀ x ∈ ms, x < 256) (ca cb i q j : Nat) : dotK ms bs ca cb i q j < 256 := by
  induction j with
  | zero => rw [dotK_zero]; decide
  | succ j ih => rw [dotK_succ]; exact Gf.xor_lt ih (Gf.mul_lt _ (getD_lt' ha _))
/-- The product. -/
def timesL (ms bs : List Nat) (ra ca cb : Nat) : List Nat := (List.range (ra * cb)).map fun p => dotK ms bs ca cb (p / cb) (p % cb) ca
theorem timesL_length (ms bs : List Nat) (ra ca cb : Nat) : (timesL ms bs ra ca cb).length = ra * cb := by simp [timesL]

/-- The code's way: a row, of which k rows of the other one were added. -/
def timesRow (ms bs : List Nat) (ca cb i k : Nat) (x : List Nat) : List Nat := (List.range k).foldl (fun x k => intoL (rowS bs cb k) (ms.getD (i * ca + k) 0) (i * cb) cb x) x
theorem timesRow_zero (ms bs : List Nat) (ca cb i : Nat) (x : List Nat) : timesRow ms bs ca cb i 0 x = x := rfl
theorem timesRow_succ (ms bs : List Nat) (ca cb i k : Nat) (x : List Nat) : timesRow ms bs ca cb i (k + 1) x = intoL (rowS bs cb k) (ms.getD (i * ca + k) 0) (i * cb) cb (timesRow ms bs ca cb i k x) := by
  rw [timesRow, List.range_succ, List.foldl_append]; rfl
theorem timesRow_length (ms bs : List Nat) (ca cb i k : Nat) (x : List Nat) : (timesRow ms bs ca cb i k x).length = x.length := by
  induction k with
  | zero => rfl
  | succ k ih => rw [timesRow_succ, intoL_length, ih]
def timesF (ms bs : List Nat) (ra ca cb : Nat) (pre : List (Fin ra)) : List Nat := pre.foldl (fun x i => timesRow ms bs ca cb i.1 ca x) (List.replicate (ra * cb) 0)
theorem timesF_snoc (ms bs : List Nat) (ra ca cb : Nat) (pre : List (Fin ra)) (i : Fin ra) : timesF ms bs ra ca cb (pre ++ [i]) = timesRow ms bs ca cb i.1 ca (timesF ms bs ra ca cb pre) := by rw [timesF, List.foldl_append]; rfl
theorem timesF_length (ms bs : List Nat) (ra ca cb : Nat) (pre : List (Fin ra)) : (timesF ms bs ra ca cb pre).length = ra * cb := by
  have h : ∀ (pre : List (Fin ra)) (l : List Nat), (pre.foldl (fun x i => timesRow ms bs ca cb i.1 ca x) l).length = l.length := by
    intro pre
    induction pre with
    | nil => intro l; rfl
    | cons i pre ih => intro l; rw [List.foldl_cons, ih, timesRow_length]
  rw [timesF, h, List.length_replicate]

theorem timesRow_far (ms bs : List Nat) (ca cb i k : Nat) (x : List Nat) (p : Nat) (h : p < i * cb ∨ i * cb + cb ≤ p) : (timesRow ms bs ca cb i k x).getD p 0 = x.getD p 0 := by
  induction k with
  | zero => rfl
  | succ k ih => rw [timesRow_succ, intoL_far _ _ _ _ _ _ h, ih]
theorem timesRow_get {ms bs : List Nat} (ha : ∀ x ∈ ms, x < 256) (hb : ∀ x ∈ bs, x < 256) (ca cb i k : Nat) (x : List Nat) (q : Nat) (hq : q < cb) (hx : i * cb + cb ≤ x.length) (h0 : x.getD (i * cb + q) 0 = 0) : (timesRow ms bs ca cb i k x).getD (i * cb + q) 0 = dotK ms bs ca cb i q k := by
  induction k with
  | zero => rw [timesRow_zero, dotK_zero, h0]
  | succ k ih =>
    rw [timesRow_succ, intoL_get _ _ _ _ _ _ hq (by rw [timesRow_length]; exact hx), ih, dotK_succ, byN_rowS hb hq, Gf.mul_comm (getD_lt' hb _) (getD_lt' ha _)]
/-- Some rows done. -/
def timesN (ms bs : List Nat) (ra ca cb j : Nat) : List Nat := (List.range j).foldl (fun x i => timesRow ms bs ca cb i ca x) (List.replicate (ra * cb) 0)
theorem timesN_succ (ms bs : List Nat) (ra ca cb j : Nat) : timesN ms bs ra ca cb (j + 1) = timesRow ms bs ca cb j ca (timesN ms bs ra ca cb j) := by
  rw [timesN, List.range_succ, List.foldl_append]; rfl
theorem timesN_length (ms bs : List Nat) (ra ca cb j : Nat) : (timesN ms bs ra ca cb j).length = ra * cb := by
  induction j with
  | zero => simp [timesN]
  | succ j ih => rw [timesN_succ, timesRow_length, ih]
theorem timesN_get {ms bs : List Nat} (ha : ∀ x ∈ ms, x < 256) (hb : ∀ x ∈ bs, x < 256) (ra ca cb j : Nat) (hj : j ≤ ra) (i q : Nat) (hi : i < ra) (hq : q < cb) :
    (timesN ms bs ra ca cb j).getD (i * cb + q) 0 = if i < j then dotK ms bs ca cb i q ca else 0 := by
  have hin : i * cb + cb ≤ ra * cb := by have := Nat.mul_le_mul_right cb hi; rw [Nat.succ_mul] at this; exact this
  induction j with
  | zero => simp [timesN, List.getD, show i * cb + q < ra * cb by omega]
  | succ j ih =>
    have ih := ih (by omega)
    rw [timesN_succ]
    by_cases h : i = j
    · subst h
      rw [if_neg (by omega)] at ih
      rw [timesRow_get ha hb _ _ _ _ _ _ hq (by rw [timesN_length]; exact hin) ih, if_pos (by omega)]
    · rw [timesRow_far, ih]
      · by_cases h2 : i < j
        · rw [if_pos h2, if_pos (by omega)]
        · rw [if_neg h2, if_neg (by omega)]
      · rcases Nat.lt_or_ge i j with h2 | h2
        · left
          have := Nat.mul_le_mul_right cb h2
          rw [Nat.succ_mul] at this; omega
        · right
          have := Nat.mul_le_mul_right cb (show j + 1 ≤ i by omega)
          rw [Nat.add_mul, Nat.one_mul] at this; omega
theorem timesF_all {ms bs : List Nat} (ha : ∀ x ∈ ms, x < 256) (hb : ∀ x ∈ bs, x < 256) (ra ca cb : Nat) (h0 : 0 < cb) : timesF ms bs ra ca cb (finL ra ra (Nat.le_refl ra)) = timesL ms bs ra ca cb := by
  have e : timesF ms bs ra ca cb (finL ra ra (Nat.le_refl ra)) = timesN ms bs ra ca cb ra := by
    rw [timesN, ← finL_val ra ra (Nat.le_refl ra), List.foldl_map]; rfl
  rw [e]
  apply List.ext_getElem
  · rw [timesN_length, timesL_length]
  · intro p h1 h2
    rw [timesN_length] at h1
    have hi : p / cb < ra := Nat.div_lt_of_lt_mul (by rw [Nat.mul_comm]; exact h1)
    have hq : p % cb < cb := Nat.mod_lt _ h0
    have hp : p / cb * cb + p % cb = p := by rw [Nat.mul_comm]; exact Nat.div_add_mod p cb
    have := timesN_get ha hb ra ca cb ra (Nat.le_refl ra) (p / cb) (p % cb) hi hq
    rw [hp, if_pos hi] at this
    rw [List.getElem_eq_getD (fallback := 0), this]
    simp [timesL]
end Go.Proofs.Ytijcmdcjjcemfaa

/- Sums of products over the field; where one is a product of two, they are as wide. -/

namespace Go.Proofs.Ytijcmdcjjcemfaa
set_option linter.unusedVariables false
set_option linter.unusedSimpArgs false

/-- A sum of products. -/
def dot (f : Nat) (u v : Nat → Nat) : Nat := (List.range f).foldl (fun a k => a ^^^ Gf.mul (u k) (v k)) 0
theorem dot_zero (u v : Nat → Nat) : dot 0 u v = 0 := rfl
theorem dot_succ (f : Nat) (u v : Nat → Nat) : dot (f + 1) u v = dot f u v ^^^ Gf.mul (u f) (v f) := by rw [dot, List.range_succ, List.foldl_append]; rfl
/-- Whose numbers are all below 256. -/
def B8 (u : Nat → Nat) : Prop := ∀ k, u k < 256
theorem dot_lt {u v : Nat → Nat} (hu : B8 u) : ∀ f, dot f u v < 256
  | 0 => by rw [dot_zero]; decide
  | f + 1 => by rw [dot_succ]; exact Gf.xor_lt (dot_lt hu f) (Gf.mul_lt _ (hu f))
theorem dot_congr {f : Nat} {u u' v v' : Nat → Nat} (h : ∀ k, k < f → u k = u' k) (h' : ∀ k, k < f → v k = v' k) : dot f u v = dot f u' v' := by
  induction f with
  | zero => rfl
  | succ f ih => rw [dot_succ, dot_succ, ih (fun k hk => h k (by omega)) (fun k hk => h' k (by omega)), h f (by omega), h' f (by omega)]
theorem xor_four (a b c d : Nat) : (a ^^^ b) ^^^ (c ^^^ d) = (a ^^^ c) ^^^ (b ^^^ d) := by
  rw [Nat.xor_assoc, Nat.xor_assoc, ← Nat.xor_assoc b c d, Nat.xor_comm b c, Nat.xor_assoc c b d]
theorem dot_add_left {u u' v : Nat → Nat} (hu : B8 u) (hu' : B8 u') : ∀ f, dot f (fun k => u k ^^^ u' k) v = dot f u v ^^^ dot f u' v
  | 0 => by rw [dot_zero, dot_zero, dot_zero]; rfl
  | f + 1 => by
    rw [dot_succ, dot_succ, dot_succ, dot_add_left hu hu' f, Gf.mul_xor_left _ (hu f) (hu' f), xor_four]
theorem dot_add_right {u v v' : Nat → Nat} (hu : B8 u) (hv : B8 v) (hv' : B8 v') : ∀ f, dot f u (fun k => v k ^^^ v' k) = dot f u v ^^^ dot f u v'
  | 0 => by rw [dot_zero, dot_zero, dot_zero]; rfl
  | f + 1 => by
    rw [dot_succ, dot_succ, dot_succ, dot_add_right hu hv hv' f, Gf.mul_xor_right (hu f) (hv f) (hv' f), xor_four]
theorem dot_smul_left {c : Nat} {u v : Nat → Nat} (hc : c < 256) (hu : B8 u) (hv : B8 v) : ∀ f, dot f (fun k => Gf.mul c (u k)) v = Gf.mul c (dot f u v)
  | 0 => by rw [dot_zero, dot_zero, Gf.mul_zero]
  | f + 1 => by
    rw [dot_succ, dot_succ, dot_smul_left hc hu hv f, Gf.mul_assoc hc (hu f) (hv f), Gf.mul_xor_right hc (dot_lt hu f) (Gf.mul_lt _ (hu f))]
theorem dot_smul_right {c : Nat} {u v : Nat → Nat} (hc : c < 256) (hu : B8 u) (hv : B8 v) : ∀ f, dot f u (fun k => Gf.mul c (v k)) = Gf.mul c (dot f u v)
  | 0 => by rw [dot_zero, dot_zero, Gf.mul_zero]
  | f + 1 => by
    rw [dot_succ, dot_succ, dot_smul_right hc hu hv f, ← Gf.mul_assoc (hu f) hc (hv f), Gf.mul_comm (hu f) hc, Gf.mul_assoc hc (hu f) (hv f), Gf.mul_xor_right hc (dot_lt hu f) (Gf.mul_lt _ (hu f))]
theorem dot_none_left {u v : Nat → Nat} (hv : B8 v) {f : Nat} (h : ∀ k, k < f → u k = 0) : dot f u v = 0 := by
  induction f with
  | zero => rfl
  | succ f ih => rw [dot_succ, ih (fun k hk => h k (by omega)), h f (by omega), Gf.zero_mul _ (hv f)]; rfl
theorem dot_none_right {u v : Nat → Nat} {f : Nat} (h : ∀ k, k < f → v k = 0) : dot f u v = 0 := by
  induction f with
  | zero => rfl
  | succ f ih => rw [dot_succ, ih (fun k hk => h k (by omega)), h f (by omega), Gf.mul_zero]; rfl
theorem dot_one_left {v : Nat → Nat} (hv : B8 v) {f i : Nat} (h : i < f) : dot f (fun k => if i = k then 1 else 0) v = v i := by
  induction f with
  | zero => omega
  | succ f ih =>
    rw [dot_succ]
    by_cases hi : i = f
    · subst hi
      rw [dot_none_left hv (fun k hk => if_neg (by omega)), if_pos rfl, Gf.one_mul _ (hv i), Nat.zero_xor]
    · rw [ih (by omega), if_neg hi, Gf.zero_mul _ (hv f), Nat.xor_zero]
theorem dot_one_right {u : Nat → Nat} (hu : B8 u) {f i : Nat} (h : i < f) : dot f u (fun k => if k = i then 1 else 0) = u i := by
  induction f with
  | zero => omega
  | succ f ih =>
    rw [dot_succ]
    by_cases hi : i = f
    · subst hi
      rw [dot_none_right (fun k hk => if_neg (by omega)), if_pos rfl, Gf.mul_one _ (hu i), Nat.zero_xor]
    · rw [ih (by omega), if_neg (fun e => hi e.symm), Gf.mul_zero, Nat.xor_zero]
/-- Brackets of a product of three. -/
theorem dot_dot {u : Nat → Nat} {A : Nat → Nat → Nat} {v : Nat → Nat} (hu : B8 u) (hA : ∀ i, B8 (A i)) (hv : B8 v) (g : Nat) : ∀ f, dot g (fun j => dot f u (fun k => A k j)) v = dot f u (fun k => dot g (A k) v)
  | 0 => by rw [dot_zero]; exact dot_none_left hv (fun _ _ => rfl)
  | f + 1 => by
    rw [dot_succ, ← dot_dot hu hA hv g f]
    have e : dot g (fun j => dot (f + 1) u (fun k => A k j)) v = dot g (fun j => dot f u (fun k => A k j) ^^^ Gf.mul (u f) (A f j)) v := dot_congr (fun k _ => dot_succ _ _ _) (fun _ _ => rfl)
    rw [e, dot_add_left (fun k => dot_lt hu f) (fun k => Gf.mul_lt _ (hu f)), dot_smul_left (hu f) (hA f) hv]

/-- The row and the column changed to the last place. -/
def swp (a b k : Nat) : Nat := if k = a then b else if k = b then a else k
theorem swp_swp (a b k : Nat) : swp a b (swp a b k) = k := by
  unfold swp
  by_cases h1 : k = a
  · subst h1
    by_cases h2 : b = k
    · simp [h2]
    · simp [h2]
  · by_cases h2 : k = b
    · subst h2; simp [h1]
    · simp [h1, h2]
theorem swp_lt {a b k r : Nat} (ha : a < r) (hb : b < r) (hk : k < r) : swp a b k < r := by unfold swp; split <;> (try split) <;> omega
theorem swp_inj {a b i j : Nat} : swp a b i = swp a b j ↔ i = j := ⟨fun h => by rw [← swp_swp a b i, h, swp_swp], fun h => by rw [h]⟩

/-- If a product over f is one of r, then r is no more than f. -/
theorem id_le : ∀ (f r : Nat) (X Y : Nat → Nat → Nat), (∀ i, B8 (X i)) → (∀ k, B8 (Y k)) → (∀ i j, i < r → j < r → dot f (X i) (fun k => Y k j) = if i = j then 1 else 0) → r ≤ f
  | 0, r, X, Y, hX, hY, h => by
    cases r with
    | zero => exact Nat.le_refl 0
    | succ r => have := h 0 0 (by omega) (by omega); rw [dot_zero, if_pos rfl] at this; omega
  | f + 1, 0, X, Y, hX, hY, h => Nat.zero_le _
  | f + 1, r + 1, X, Y, hX, hY, h => by
    by_cases hz : ∃ i, i < r + 1 ∧ X i f ≠ 0
    · obtain ⟨i0, hi0, hne⟩ := hz
      -- the row with a number in the last column is the last one
      have hs : ∀ i, i < r → swp i0 r i ≠ i0 := fun i hi e => by
        have : swp i0 r i = swp i0 r r := by rw [e]; unfold swp; split <;> simp_all
        rw [swp_inj] at this; omega
      have hs0 : swp i0 r r = i0 := by unfold swp; split <;> simp_all
      obtain ⟨v, hv⟩ : ∃ v, v = Gf.inv (X i0 f) := ⟨_, rfl⟩
      have hv256 : v < 256 := by rw [hv]; exact Gf.inv_lt _
      have hvx : Gf.mul v (X i0 f) = 1 := by rw [hv]; exact Gf.mul_inv (hX i0 f) hne
      have hc : ∀ i, Gf.mul (X (swp i0 r i) f) v < 256 := fun i => Gf.mul_lt _ (hX _ f)
      have := id_le f r (fun i k => X (swp i0 r i) k ^^^ Gf.mul (Gf.mul (X (swp i0 r i) f) v) (X i0 k)) (fun k j => Y k (swp i0 r j))
        (fun i k => Gf.xor_lt (hX _ k) (Gf.mul_lt _ (hc i))) (fun k j => hY k _) (fun i j hi hj => by
          have hY' : B8 (fun k => Y k (swp i0 r j)) := fun k => hY k _
          have hsub : B8 (fun k => Gf.mul (Gf.mul (X (swp i0 r i) f) v) (X i0 k)) := fun k => Gf.mul_lt _ (hc i)
          have e1 := h (swp i0 r i) (swp i0 r j) (swp_lt hi0 (by omega) (by omega)) (swp_lt hi0 (by omega) (by omega))
          have e2 := h i0 (swp i0 r j) hi0 (swp_lt hi0 (by omega) (by omega))
          rw [if_neg (fun e => hs j hj e.symm)] at e2
          have e3 : dot (f + 1) (fun k => X (swp i0 r i) k ^^^ Gf.mul (Gf.mul (X (swp i0 r i) f) v) (X i0 k)) (fun k => Y k (swp i0 r j)) = if swp i0 r i = swp i0 r j then 1 else 0 := by
            rw [dot_add_left (hX _) hsub, dot_smul_left (hc i) (hX i0) hY', e1, e2, Gf.mul_zero, Nat.xor_zero]
          rw [dot_succ] at e3
          have e4 : X (swp i0 r i) f ^^^ Gf.mul (Gf.mul (X (swp i0 r i) f) v) (X i0 f) = 0 := by
            rw [Gf.mul_assoc (hX _ f) hv256 (hX i0 f), hvx, Gf.mul_one _ (hX _ f), Nat.xor_self]
          rw [e4, Gf.zero_mul _ (hY f _), Nat.xor_zero] at e3
          rw [e3]
          by_cases hij : i = j
          · rw [hij]
            rw [if_pos rfl, if_pos rfl]
          · rw [if_neg hij, if_neg (fun e => hij (swp_inj.1 e))])
      omega
    · have hz' : ∀ i, i < r + 1 → X i f = 0 := fun i hi => Classical.byContradiction fun hne => hz ⟨i, hi, hne⟩
      have := id_le f (r + 1) X Y hX hY (fun i j hi hj => by
        have e := h i j hi hj
        rw [dot_succ, hz' i hi, Gf.zero_mul _ (hY f j), Nat.xor_zero] at e
        exact e)
      omega
end Go.Proofs.Ytijcmdcjjcemfaa
