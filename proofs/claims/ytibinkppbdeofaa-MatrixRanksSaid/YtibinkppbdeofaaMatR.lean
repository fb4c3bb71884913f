/- A matrix's rows, ranged over: what the iterator promises. -/
import Derived.Test.YtibinkppbdeofaaMatE
import Derived.RangeFuncFrom
import Derived.RangeFuncMany
import Derived.RangeFuncNested
import Derived.RangeFuncBound
import Derived.RangeFuncCalls
import Derived.RangeFuncLeaves
import Derived.Shelf.Abstract
import Derived.Shelf.RegionOpen
import Derived.OwnWalkIn
import Derived.TacticsInMore
import Derived.LoopNIn
import Derived.LoopIn
namespace Go.Proofs.Ytibinkppbdeofaa
open Go.ChangeShapes Go.WideShapes Go.ChangeAt Go.RowKit Go.Joins Go.Shelf
set_option linter.unusedVariables false
set_option linter.unusedSimpArgs false
attribute [local go_sem] Oper.semAt_some

set_option maxRecDepth 100000 in
set_option maxHeartbeats 400000 in
theorem row_alloc (R : Int) (c i b o n k : Nat) (w : World) (hc : c ≤ 16) (hc1 : 1 ≤ c) (hi : i ≤ 16) (hn : (i + 1) * c ≤ n) (hk : n ≤ k) (hk2 : k ≤ 9223372036854775807) :
    Calls Try.prog 51 #[matV R (c : Int) (.slice (some ⟨b, o, none⟩) n k), .int .i64 (i : Int)] w fun e w' => e = .returned (.slice (some ⟨b, o + i * c, none⟩) c (k - i * c)) ∧ w' = w.alloc (.cells #[.int .i64 R, .int .i64 (c : Int), .slice (some ⟨b, o, none⟩) n k] 30) := by
  obtain ⟨x, hx⟩ : ∃ x, x = i * c := ⟨_, rfl⟩
  obtain ⟨y, hy⟩ : ∃ y, y = (i + 1) * c := ⟨_, rfl⟩
  have hyx : y = x + c := by rw [hy, hx, Nat.add_mul, Nat.one_mul]
  have h1 : (i : Int) * (c : Int) = (x : Int) := by rw [hx]; simp
  have h2 : ((i : Int) + 1) * (c : Int) = (y : Int) := by rw [hy]; simp
  rw [← hy] at hn
  rw [← hx]
  have hxs : x ≤ 16 * 16 := by rw [hx]; exact Nat.mul_le_mul hi hc
  have h4 : (0 : Int) ≤ (x : Int) := by omega
  have h5 : (x : Int) ≤ (y : Int) := by omega
  have h6 : (y : Int) ≤ (k : Int) := by omega
  have w1 : IntKind.i64.wrap (x : Int) = (x : Int) := IntWalk.i64_in _ (by omega)
  have w2 : IntKind.i64.wrap (y : Int) = (y : Int) := IntWalk.i64_in _ (by omega)
  have w3 : IntKind.i64.wrap ((i : Int) + 1) = (i : Int) + 1 := IntWalk.i64_in _ (by omega)
  clear hx hy
  unfold matV
  go_enter Try.func51, Try.ntmps51
  go_wp2_with fail
  all_goals
    first
      | (exfalso; omega)
      | (go_ret
         exact ⟨by show Ending.returned (Value.slice _ (x + c - x) (k - x)) = _; rw [Nat.add_sub_cancel_left], rfl⟩)

set_option maxRecDepth 100000 in
set_option maxHeartbeats 400000 in
theorem rows_any (R C : Int) (A : Option Addr) (n k : Nat) (w : World) :
    Calls Try.prog 47 #[matV R C (.slice A n k)] w fun e w' => e = .returned (.func (.func 65) #[] #[.pointer (some ⟨w.heap.size, 0, none⟩)]) ∧ w' = w.alloc (.cells #[.int .i64 R, .int .i64 C, .slice A n k] 30) := by
  unfold matV
  go_enter Try.func47, Try.ntmps47
  go_wp2_with fail
  go_ret
  exact ⟨rfl, rfl⟩

/-- The numbers below j, each of them below r. -/
def finL (r : Nat) : (j : Nat) → j ≤ r → List (Fin r)
  | 0, _ => []
  | j + 1, h => finL r j (by omega) ++ [⟨j, by omega⟩]
theorem finL_val (r : Nat) : ∀ (j : Nat) (h : j ≤ r), (finL r j h).map Fin.val = List.range j
  | 0, _ => rfl
  | j + 1, h => by rw [finL, List.map_append, finL_val r j, List.range_succ]; rfl
theorem finL_length (r : Nat) : ∀ (j : Nat) (h : j ≤ r), (finL r j h).length = j
  | 0, _ => rfl
  | j + 1, h => by rw [finL, List.length_append, finL_length r j]; rfl
/-- What the iterator hands out: a row's number, the row. -/
abbrev encRow (b o c k : Nat) {r : Nat} (i : Fin r) : Array Value := #[.int .i64 (i.1 : Int), .slice (some ⟨b, o + i.1 * c, none⟩) c (k - i.1 * c)]
/-- What a round must keep: the iterator's box. -/
def KeepsBox (Bn : Nat) (W W' : World) : Prop := W.heap.size ≤ W'.heap.size ∧ W'.heap[Bn]? = W.heap[Bn]?
theorem keepsBox_t {Bn : Nat} {A B C : World} (h : KeepsBox Bn A B) (k : KeepsBox Bn B C) : KeepsBox Bn A C := ⟨Nat.le_trans h.1 k.1, k.2.trans h.2⟩
theorem keepsBox_b {Bn : Nat} {w : World} (hB : Bn < w.heap.size) (W : World) (l : Nat) (o o' : Obj) (hl : w.heap.size ≤ l) (_ : W.heap[l]? = some o) (_ : o.isCells = false) (_ : o.isWalk = false) : KeepsBox Bn W (W.putObj l o') :=
  ⟨by simp [World.putObj], World.putObj_heap_other (by omega)⟩
theorem three_of {w W : World} {B : Nat} {a b c : Value} (h : Three w B a b c) (hk : W.heap[B]? = w.heap[B]?) : Three W B a b c :=
  ⟨by rw [World.cell?_of_block (w := w) (a := ⟨B, 0, none⟩) hk]; exact h.c0, by rw [World.cell?_of_block (w := w) (a := ⟨B, 1, none⟩) hk]; exact h.c1, by rw [World.cell?_of_block (w := w) (a := ⟨B, 2, none⟩) hk]; exact h.c2,
    by rw [World.frozen?_of_block (w := w) (a := ⟨B, 0, none⟩) hk]; exact h.f0, by rw [World.frozen?_of_block (w := w) (a := ⟨B, 1, none⟩) hk]; exact h.f1, by rw [World.frozen?_of_block (w := w) (a := ⟨B, 2, none⟩) hk]; exact h.f2⟩

set_option maxRecDepth 100000 in
set_option maxHeartbeats 1000000 in
theorem rows1_stops (Bn r c b o n k : Nat) (w : World) (hBn : Bn < w.heap.size) (hT : Three w Bn (.int .i64 (r : Int)) (.int .i64 (c : Int)) (.slice (some ⟨b, o, none⟩) n k)) (hr : r ≤ 16) (hc : c ≤ 16) (hc1 : 1 ≤ c) (hn : r * c ≤ n) (hk : n ≤ k) (hk2 : k ≤ 9223372036854775807) :
    SeqStopsK Fence.wide 9 Try.prog 65 #[.pointer (some ⟨Bn, 0, none⟩)] (encRow b o c k (r := r)) (KeepsBox Bn) (fun xs => xs = finL r r (Nat.le_refl r)) (fun pre => ∃ j, ∃ h : j ≤ r, pre = finL r j h) r w := fun l J Jx W hW hJa _ hY h0 => by
  have hBW : W.heap[Bn]? = w.heap[Bn]? := hW.block Bn hBn
  have HT := Lib.hid hT
  obtain ⟨a0, a1, a2, _, _, _⟩ := three_of hT hBW
  have HBW := Lib.hid hBW
  have hBW2 := Nat.lt_of_lt_of_le hBn hW.size
  clear hBW hT hW
  refine callsIn_of_wp Try.func65 rfl trivial ?_ rfl
  simp only [Try.ntmps65, List.size_toArray, List.length_cons, List.length_nil, Nat.reduceAdd, Nat.reduceSub, Array.replicate_succ, Array.replicate_zero, List.push_toArray, List.append_toArray, List.nil_append, List.cons_append]
  gi_wp2
  clear a0 a1 a2
  gi_loopw [3, 6] (fun x i wr => ∃ (j : Nat) (hj : j ≤ r), i = .int .i64 j ∧ J (finL r j hj) wr ∧ Hid (wr.heap[Bn]? = w.heap[Bn]?) ∧ W.heap.size ≤ wr.heap.size) (fun _ i _ => r - (intOf i).toNat)
  case atStart => exact ⟨0, by omega, rfl, h0, HBW, Nat.le_refl _⟩
  case round =>
    obtain ⟨j, hj, rfl, hJ, HB, hsz⟩ := hrel
    by_cases hjr : j < r
    · obtain ⟨a0, a1, a2, _, _, _⟩ := three_of HT.out HB.out
      have hjm : (j + 1) * c ≤ n := Nat.le_trans (Nat.mul_le_mul_right c hjr) hn
      have hJ1 := hJa _ wr (wr.alloc (.cells #[.int .i64 (r : Int), .int .i64 (c : Int), .slice (some ⟨b, o, none⟩) n k] 30)) none hJ (World.grownBy_alloc wr _ none) (fun r e => by cases e)
      obtain ⟨fn, tmps, assign, body, hy, hR⟩ := hY (finL r j hj) ⟨j, hjr⟩ _ hJ1 (by rw [finL_length]; exact hjr)
      dsimp only [encRow] at hy
      have hB2 : Hid ((wr.alloc (.cells #[.int .i64 (r : Int), .int .i64 (c : Int), .slice (some ⟨b, o, none⟩) n k] 30)).heap[Bn]? = w.heap[Bn]?) := by
        rw [Hid, Below.heap_alloc _ _ _ (by omega)]; exact HB.out
      have hsz2 : W.heap.size ≤ (wr.alloc (.cells #[.int .i64 (r : Int), .int .i64 (c : Int), .slice (some ⟨b, o, none⟩) n k] 30)).heap.size := by simp; omega
      gi_wp2_with (refine ⟨trivial, ?_⟩; gi_at_call 51; refine (callsIn_wide.2 (row_alloc (r : Int) c j b o n k _ hc hc1 (by omega) hjm hk hk2)).mono ?_; rintro e w' ⟨rfl, rfl⟩)
      clear hJ HB hsz a0 a1 a2
      refine hR.mono ?_
      rintro e W3 (⟨rfl, hJ3, hk3⟩ | ⟨rfl, hJx3⟩)
      · have HB3 : Hid (W3.heap[Bn]? = w.heap[Bn]?) := Lib.hid (hk3.2.trans hB2.out)
        have hsz3 := Nat.le_trans hsz2 hk3.1
        clear hk3 hB2 hsz2 hJ1
        gi_wp2
        go_roundw
        case rel => exact ⟨j + 1, by omega, by go_num, hJ3, HB3, hsz3⟩
        case measure => simp [intOf]; omega
      · gi_wp2
        refine bodyPost_ret (results_none rfl _ _ _) rfl ?_
        exact ⟨⟨_, rfl⟩, .inr ⟨finL r (j + 1) hjr, ⟨_, hjr, rfl⟩, hJx3⟩⟩
    · obtain rfl : j = r := by omega
      gi_wp2
      go_end0
      exact ⟨⟨_, rfl⟩, .inl ⟨_, rfl, hJ⟩⟩
end Go.Proofs.Ytibinkppbdeofaa
