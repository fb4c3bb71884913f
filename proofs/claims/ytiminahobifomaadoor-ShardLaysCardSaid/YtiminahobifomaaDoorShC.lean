/- slices.Chunk, ranged over: pieces of 64 bytes. -/
import Derived.Test.YtiminahobifomaaDoorShB
import Derived.RangeFuncFrom
import Derived.Test.YtiminahobifomaaDoorMatR
import Derived.RangeFuncMany
import Derived.RangeFuncNested
import Derived.RangeFuncBound
import Derived.RangeFuncCalls
import Derived.RangeFuncLeaves
import Derived.Shelf.Abstract
import Derived.Shelf.RegionOpen
import Derived.OwnWalkIn
import Derived.TacticsInMore
import Derived.LoopNIn
import Derived.LoopIn
namespace Go.Proofs.YtiminahobifomaaDoor
open Go.ChangeShapes Go.WideShapes Go.ChangeAt Go.RowKit Go.Joins Go.Shelf
set_option linter.unusedVariables false
set_option linter.unusedSimpArgs false
attribute [local go_sem] Oper.semAt_some

/-- What the iterator hands out: the piece. -/
abbrev encChunk (b o : Nat) {m : Nat} (i : Fin m) : Array Value := #[.slice (some ⟨b, o + 64 * i.1, none⟩) 64 64]
/-- What a round must keep: the iterator's two boxes. -/
def KeepsTwo (B0 B1 : Nat) (W W' : World) : Prop := W.heap.size ≤ W'.heap.size ∧ W'.heap[B0]? = W.heap[B0]? ∧ W'.heap[B1]? = W.heap[B1]?
theorem keepsTwo_t {B0 B1 : Nat} {A B C : World} (h : KeepsTwo B0 B1 A B) (k : KeepsTwo B0 B1 B C) : KeepsTwo B0 B1 A C := ⟨Nat.le_trans h.1 k.1, k.2.1.trans h.2.1, k.2.2.trans h.2.2⟩
theorem keepsTwo_b {B0 B1 : Nat} {w : World} (h0 : B0 < w.heap.size) (h1 : B1 < w.heap.size) (W : World) (l : Nat) (o o' : Obj) (hl : w.heap.size ≤ l) (_ : W.heap[l]? = some o) (_ : o.isCells = false) (_ : o.isWalk = false) : KeepsTwo B0 B1 W (W.putObj l o') :=
  ⟨by simp [World.putObj], World.putObj_heap_other (by omega), World.putObj_heap_other (by omega)⟩

set_option maxRecDepth 100000 in
set_option maxHeartbeats 400000 in
theorem chunk_any (b o n k : Nat) (w : World) :
    Calls Tryd.prog 36 #[.slice (some ⟨b, o, none⟩) n k, .int .i64 64] w fun e w' => e = .returned (.func (.func 51) #[] #[.pointer (some ⟨w.heap.size, 0, none⟩), .pointer (some ⟨w.heap.size + 1, 0, none⟩)]) ∧ w' = (w.alloc (.cells #[.slice (some ⟨b, o, none⟩) n k] 37)).alloc (.cells #[.int .i64 64] 3) := by
  go_enter Tryd.func36, Tryd.ntmps36
  go_wp2
  go_ret
  exact ⟨rfl, rfl⟩

set_option maxRecDepth 100000 in
set_option maxHeartbeats 2000000 in
theorem chunk1_stops (B0 B1 b o m n k : Nat) (w : World) (h0 : B0 < w.heap.size) (h1 : B1 < w.heap.size) (c0 : w.cell? ⟨B0, 0, none⟩ = some (.slice (some ⟨b, o, none⟩) n k)) (c1 : w.cell? ⟨B1, 0, none⟩ = some (.int .i64 64)) (hn : n = 64 * m) (hm : m ≤ 1000) (hk : n ≤ k) (hk2 : k ≤ 9223372036854775807) :
    SeqStopsK Fence.wide 9 Tryd.prog 51 #[.pointer (some ⟨B0, 0, none⟩), .pointer (some ⟨B1, 0, none⟩)] (encChunk b o (m := m)) (KeepsTwo B0 B1) (fun xs => xs = finL m m (Nat.le_refl m)) (fun pre => ∃ j, ∃ h : j ≤ m, pre = finL m j h) m w := fun l J Jx W hW hJa _ hY hj0 => by
  have a0 := (hW.cell (p := ⟨B0, 0, none⟩) h0).trans c0
  have a1 := (hW.cell (p := ⟨B1, 0, none⟩) h1).trans c1
  have A0 := Lib.hid a0
  have A1 := Lib.hid a1
  have HN := Lib.hid hn
  have hB0 := Nat.lt_of_lt_of_le h0 hW.size
  have hB1 := Nat.lt_of_lt_of_le h1 hW.size
  clear hW c0 c1 hn a0 a1
  refine callsIn_of_wp Tryd.func51 rfl trivial ?_ rfl
  simp only [Tryd.ntmps51, List.size_toArray, List.length_cons, List.length_nil, Nat.reduceAdd, Nat.reduceSub, Array.replicate_succ, Array.replicate_zero, List.push_toArray, List.append_toArray, List.nil_append, List.cons_append]
  gi_wp2
  gi_loopw [4] (fun i wr => ∃ (j : Nat) (hj : j ≤ m), i = .int .i64 ((64 * j : Nat) : Int) ∧ J (finL m j hj) wr ∧ Hid (wr.heap[B0]? = W.heap[B0]? ∧ wr.heap[B1]? = W.heap[B1]?)) (fun i _ => n - (intOf i).toNat)
  case atStart => exact ⟨0, by omega, rfl, hj0, rfl, rfl⟩
  case round =>
    obtain ⟨j, hj, rfl, hJ, HB⟩ := hrel
    have a0 : wr.cell? ⟨B0, 0, none⟩ = some (.slice (some ⟨b, o, none⟩) n k) := by rw [World.cell?_of_block (w := W) (a := ⟨B0, 0, none⟩) HB.out.1]; exact A0.out
    have a1 : wr.cell? ⟨B1, 0, none⟩ = some (.int .i64 64) := by rw [World.cell?_of_block (w := W) (a := ⟨B1, 0, none⟩) HB.out.2]; exact A1.out
    by_cases hjm : j < m
    · obtain ⟨q, hq⟩ : ∃ q, q = 64 * j := ⟨_, rfl⟩
      have hqn : q + 64 ≤ n := by have := HN.out; omega
      rw [← hq]
      have hd : decide ((q : Int) < (n : Int)) = true := by simp; omega
      have HQ := Lib.hid hq
      clear hq
      have q0 : (0 : Int) ≤ (q : Int) := by omega
      have q1 : (q : Int) ≤ (n : Int) := by omega
      have q2 : q ≤ n := by omega
      have hmin : min (64 : Int) ((n : Int) - (q : Int)) = 64 := by omega
      have hmin2 : min 64 (n - q) = 64 := by omega
      have hmin3 : (64 : Int) ≤ ((n - q : Nat) : Int) := by omega
      obtain ⟨q3, hq3⟩ : ∃ q3, q3 = q + 64 := ⟨_, rfl⟩
      have w3 : IntKind.i64.wrap ((q : Int) + 64) = (q3 : Int) := by rw [IntWalk.i64_in _ (by omega)]; omega
      have s1 : q3 - q = 64 := by omega
      have s2 : q3 ≤ k := by omega
      have s3 : (q3 : Int) ≤ (k : Int) := by omega
      have s4 : (q : Int) ≤ (q3 : Int) := by omega
      have s5 : q ≤ q3 := by omega
      have s6 : (0 : Int) ≤ (q3 : Int) := by omega
      have HQ3 := Lib.hid hq3
      clear hq3
      gi_wp2
      refine wpIn_wide.2 ?_
      go_quiet (fail)
      have hJ1 : J (finL m j hj) (wr.drewN nq) := hJa _ _ _ none hJ ⟨rfl, rfl, rfl, Nat.le_refl _, fun _ _ _ => rfl⟩ (fun r e => by cases e)
      obtain ⟨fn, tmps, assign, body, hy, hR⟩ := hY (finL m j hj) ⟨j, hjm⟩ _ hJ1 (by rw [finL_length]; exact hjm)
      dsimp only [encChunk] at hy
      rw [← HQ.out] at hy
      have b0 : (wr.drewN nq).cell? ⟨B0, 0, none⟩ = some (.slice (some ⟨b, o, none⟩) n k) := a0
      have b1 : (wr.drewN nq).cell? ⟨B1, 0, none⟩ = some (.int .i64 64) := a1
      have HB2 : Hid ((wr.drewN nq).heap[B0]? = W.heap[B0]? ∧ (wr.drewN nq).heap[B1]? = W.heap[B1]?) := HB.out
      clear a0 a1 hJ hJ1 HB
      generalize wr.drewN nq = wy at *
      gi_wp2
      refine hR.mono ?_
      clear hR
      rintro e W3 (⟨rfl, hJ3, hk3⟩ | ⟨rfl, hJx3⟩)
      · have HB3 : Hid (W3.heap[B0]? = W.heap[B0]? ∧ W3.heap[B1]? = W.heap[B1]?) := ⟨hk3.2.1.trans HB2.out.1, hk3.2.2.trans HB2.out.2⟩
        have d1 : W3.cell? ⟨B1, 0, none⟩ = some (.int .i64 64) := by rw [World.cell?_of_block (w := W) (a := ⟨B1, 0, none⟩) HB3.out.2]; exact A1.out
        clear hk3 b0 b1 HB2
        gi_wp2
        go_roundw
        case rel => exact ⟨j + 1, by omega, by first | (have := HQ.out; have := HQ3.out; congr 1; omega) | (have := HQ.out; have := HQ3.out; go_num), hJ3, HB3⟩
        case measure => have := HQ3.out; simp [intOf]; omega
      · gi_wp2
        refine bodyPost_ret (results_none rfl _ _ _) rfl ?_
        exact ⟨⟨_, rfl⟩, .inr ⟨finL m (j + 1) hjm, ⟨_, hjm, rfl⟩, hJx3⟩⟩
    · obtain rfl : j = m := by omega
      have hqn : 64 * j = n := HN.out.symm
      rw [hqn]
      have hd : decide ((n : Int) < (n : Int)) = false := decide_eq_false (by omega)
      clear hqn
      gi_wp2
      go_end0
      exact ⟨⟨_, rfl⟩, .inl ⟨_, rfl, hJ⟩⟩
end Go.Proofs.YtiminahobifomaaDoor
