/- The program's block, walked. -/
import Derived.Test.YtnpngkbcfkolnaaDigN
import Derived.Test.YtnpngkbcfkolnaaDigP
import Derived.Laws.CopyOwn
namespace Go.Proofs.Ytnpngkbcfkolnaa
open Go.ChangeShapes Go.WideShapes Go.ChangeAt Go.RowKit Go.Joins
set_option linter.unusedVariables false
set_option linter.unusedSimpArgs false
attribute [local go_sem ↓] Go.wp_at_zero Go.wp_at_succ

theorem Kept.setRow (w : World) (g : Nat) (cs : Array Value) : Kept (· = g) w (w.setRow g cs) :=
  ⟨rfl, rfl, rfl, by rw [setRow_size]; exact Nat.le_refl _, fun k _ hk => setRow_other w g k cs hk⟩
theorem CellsAt.of_heap {w : World} {b : Nat} {cs : Array Value} {t : TypeId} (h : w.heap[b]? = some (.cells cs t (0, 0))) : CellsAt w b 0 cs.toList := by
  refine ⟨(Array.getElem?_eq_some_iff.1 h).1, fun i hi => ?_⟩
  rw [Array.length_toList] at hi
  rw [Nat.zero_add]
  refine ⟨?_, frozen_of_row w b i cs t h⟩
  rw [cell_of_row _ _ _ cs t (0, 0) h]
  simp [List.getD, hi]
theorem words_next2 {s : ByteArray} {k q r c : Nat} {mv : Int} {w : World} {Bm : Nat} (hk : k < s.size) (h64 : s.size ≤ 64) (h : CellsAt w Bm 0 (u32s (wordsQ s k))) (hq : k / 4 = q) (hr : k % 4 = r) (hc : (s[k]'hk).toNat = c) (hmv : (wordsQ s k).getD q 0 = mv) :
    CellsAt (w.setCell ⟨Bm, q, none⟩ (.int .u32 (bits .or .u32 mv ((c : Int) * 2 ^ (8 * r) % 4294967296)))).drew Bm 0 (u32s (wordsQ s (k + 1))) := by
  have hl := (wordsQ_words s k).1
  have h1 := h.set (k := q) (by simp [u32s]; omega) (.int .u32 (bits .or .u32 mv ((c : Int) * 2 ^ (8 * r) % 4294967296)))
  rw [Nat.zero_add, u32s_set] at h1
  have e : wordsQ s (k + 1) = (wordsQ s k).set q (bits .or .u32 mv ((c : Int) * 2 ^ (8 * r) % 4294967296)) := by
    have hg : (s.data.toList.getD k 0).toNat = c := by
      rw [← hc, List.getD, List.getElem?_eq_getElem (by simpa using hk)]; rfl
    rw [wordsQ, range_step, ← wordsQ, wordsStep, hg, hq, hr, hmv]
  rw [e]
  exact h1.drew
theorem heap4 (w : World) (A B C D : Obj) : ((((w.alloc A).alloc B).alloc C).alloc D).heap[w.heap.size]? = some A ∧ ((((w.alloc A).alloc B).alloc C).alloc D).heap[w.heap.size + 1]? = some B ∧ ((((w.alloc A).alloc B).alloc C).alloc D).heap[w.heap.size + 1 + 1]? = some C ∧ ((((w.alloc A).alloc B).alloc C).alloc D).heap[w.heap.size + 1 + 1 + 1]? = some D := by
  refine ⟨?_, ?_, ?_, ?_⟩
  · rw [Below.heap_alloc _ _ _ (by simp; omega), Below.heap_alloc _ _ _ (by simp; omega), Below.heap_alloc _ _ _ (by simp)]; exact heap_alloc_new _ _
  · rw [Below.heap_alloc _ _ _ (by simp), Below.heap_alloc _ _ _ (by simp)]; have := heap_alloc_new (w.alloc A) B; rwa [World.size_alloc] at this
  · rw [Below.heap_alloc _ _ _ (by simp)]; have := heap_alloc_new ((w.alloc A).alloc B) C; rwa [World.size_alloc, World.size_alloc] at this
  · have := heap_alloc_new (((w.alloc A).alloc B).alloc C) D; rwa [World.size_alloc, World.size_alloc, World.size_alloc] at this
theorem src_of_heap {w : World} {b : Nat} {C : Array Value} {t : TypeId} {fr : Nat × Nat} (h : w.heap[b]? = some (.cells C t fr)) : ∀ j v, C.toList[j]? = some v → w.cell? ((⟨b, 0, none⟩ : Addr).add j) = some v := by
  intro j v hv
  rw [Go.WideShapes.add_plain, Nat.zero_add, cell_of_row _ _ _ _ _ _ h]
  simpa using hv
def z16A : Array Value := (u32s (List.replicate 16 0)).toArray
def z8A : Array Value := (u32s (List.replicate 8 0)).toArray
theorem u32s_one (vs : List Int) : ∀ v ∈ u32s vs, v.oneCell' = true := by
  intro v hv
  simp only [u32s, List.mem_map] at hv
  obtain ⟨x, _, rfl⟩ := hv
  rfl
theorem index_row {r : Nat} (h : r < 10) (W : World) : (Instr.index 57 (.agg rowsC) (.int .i64 (r : Int))).run Try.prog W = .ok (.agg (rowC r)) W := by
  rcases lt10 h with rfl | rfl | rfl | rfl | rfl | rfl | rfl | rfl | rfl | rfl <;> kernel_rfl
theorem index_quarter' {i : Nat} (h : i < 8) (W : World) : (Instr.index 63 (.agg quartersC) (.int .i64 (i : Int))).run Try.prog W = .ok (.agg #[.int .i64 ((quarter i).1 : Int), .int .i64 ((quarter i).2.1 : Int), .int .i64 ((quarter i).2.2.1 : Int), .int .i64 ((quarter i).2.2.2 : Int)]) W := by
  have h8 : i = 0 ∨ i = 1 ∨ i = 2 ∨ i = 3 ∨ i = 4 ∨ i = 5 ∨ i = 6 ∨ i = 7 := by omega
  rcases h8 with rfl | rfl | rfl | rfl | rfl | rfl | rfl | rfl
  all_goals (refine @id (_ = _) ?_; kernel_rfl)
theorem index_quarter {i : Nat} (h : i < 8) : ∃ a b c d : Nat, quarter i = (a, b, c, d) ∧ ∀ W, (Instr.index 63 (.agg quartersC) (.int .i64 (i : Int))).run Try.prog W = .ok (.agg #[.int .i64 (a : Int), .int .i64 (b : Int), .int .i64 (c : Int), .int .i64 (d : Int)]) W :=
  ⟨_, _, _, _, rfl, fun W => index_quarter' h W⟩
theorem nats_at' {w : World} {g : Nat} {l : List Value} {v : Value} (h : CellsAt w g 0 l) {i : Nat} (hi : l[i]? = some v) : w.cell? ⟨g, i, none⟩ = some v := by
  obtain ⟨hl, e⟩ := List.getElem?_eq_some_iff.1 hi
  have := h.cell hl
  rw [Nat.zero_add] at this
  rw [this, e]
theorem word_at' {w : World} {g n : Nat} {ms : List Int} (h : CellsAt w g 0 (u32s ms)) (hw : Words n ms) {a : Nat} (ha : a < n) : ∃ x : Int, w.cell? ⟨g, a, none⟩ = some (.int .u32 x) ∧ (0 ≤ x ∧ x < 4294967296) ∧ Hid (ms.getD a 0 = x) := by
  obtain ⟨h1, _⟩ := u32s_get h (hw.some ha)
  rw [Nat.zero_add] at h1
  exact ⟨_, h1, hw.get ha, rfl⟩
theorem ofInt_wrap32 (v : BitVec 32) : BitVec.ofInt 32 (IntKind.u32.wrap (v.toNat : Int)) = v := by
  rw [IntWalk.u32_in _ (by have := v.isLt; omega)]
  apply BitVec.eq_of_toNat_eq
  simp
theorem xor_assoc32 (x y z : Int) : bits .xor .u32 x (bits .xor .u32 y z) = bits .xor .u32 (bits .xor .u32 x y) z := by
  have e : ∀ a b : Int, BitVec.ofInt 32 (bits .xor .u32 a b) = BitVec.ofInt 32 a ^^^ BitVec.ofInt 32 b := fun a b => ofInt_wrap32 _
  show IntKind.u32.wrap ((BitVec.ofInt 32 x ^^^ BitVec.ofInt 32 (bits .xor .u32 y z)).toNat : Int) = IntKind.u32.wrap ((BitVec.ofInt 32 (bits .xor .u32 x y) ^^^ BitVec.ofInt 32 z).toNat : Int)
  rw [e, e, BitVec.xor_assoc]
theorem list8 {l : List Int} (h : l.length = 8) : ∃ a b c d e f g i, l = [a, b, c, d, e, f, g, i] := by
  match l, h with
  | [a, b, c, d, e, f, g, i], _ => exact ⟨a, b, c, d, e, f, g, i, rfl⟩
theorem roundsQ_succ (ms v : List Int) (r : Nat) : roundsQ ms v (r + 1) = roundQ ms (roundsQ ms v r) r := range_step _ _ _
theorem infoI16 : (Try.prog.info? 56).map (·.size) = some 16 := by kernel_rfl
theorem infoU32 : (Try.prog.info? 44).map (·.size) = some 1 := by kernel_rfl

set_option maxRecDepth 100000 in
set_option maxHeartbeats 4000000 in
theorem turned_any (h0 h1 h2 h3 h4 h5 h6 h7 : Int) (s : ByteArray) (n : Nat) (last : Bool) (w : World) (hw : Words 8 [h0, h1, h2, h3, h4, h5, h6, h7]) (hs64 : s.size ≤ 64) (hn : n ≤ 1000000000) :
    Calls Try.prog 29 #[.agg #[.int .u32 h0, .int .u32 h1, .int .u32 h2, .int .u32 h3, .int .u32 h4, .int .u32 h5, .int .u32 h6, .int .u32 h7], .string s, .int .i64 (n : Int), .bool last] w fun e w' => e = .returned (.agg (u32s (blockQ [h0, h1, h2, h3, h4, h5, h6, h7] s n last)).toArray) ∧ Below w.heap.size w w' := by
  go_enter Try.func29, Try.ntmps29
  go_wp2_with fail
  have hH1 : (((((w.alloc (.cells #[.int .u32 h0, .int .u32 h1, .int .u32 h2, .int .u32 h3, .int .u32 h4, .int .u32 h5, .int .u32 h6, .int .u32 h7] 45)).alloc (.cells #[.int .u32 0, .int .u32 0, .int .u32 0, .int .u32 0, .int .u32 0, .int .u32 0, .int .u32 0, .int .u32 0] 45)).alloc (.cells #[.int .u32 0, .int .u32 0, .int .u32 0, .int .u32 0, .int .u32 0, .int .u32 0, .int .u32 0, .int .u32 0, .int .u32 0, .int .u32 0, .int .u32 0, .int .u32 0, .int .u32 0, .int .u32 0, .int .u32 0, .int .u32 0] 55)).alloc (.cells #[.int .u32 0, .int .u32 0, .int .u32 0, .int .u32 0, .int .u32 0, .int .u32 0, .int .u32 0, .int .u32 0, .int .u32 0, .int .u32 0, .int .u32 0, .int .u32 0, .int .u32 0, .int .u32 0, .int .u32 0, .int .u32 0] 55))).heap[w.heap.size]? = some (.cells #[.int .u32 h0, .int .u32 h1, .int .u32 h2, .int .u32 h3, .int .u32 h4, .int .u32 h5, .int .u32 h6, .int .u32 h7] 45 (0, 0)) := (heap4 w _ _ _ _).1
  have hR1 : (((((w.alloc (.cells #[.int .u32 h0, .int .u32 h1, .int .u32 h2, .int .u32 h3, .int .u32 h4, .int .u32 h5, .int .u32 h6, .int .u32 h7] 45)).alloc (.cells #[.int .u32 0, .int .u32 0, .int .u32 0, .int .u32 0, .int .u32 0, .int .u32 0, .int .u32 0, .int .u32 0] 45)).alloc (.cells #[.int .u32 0, .int .u32 0, .int .u32 0, .int .u32 0, .int .u32 0, .int .u32 0, .int .u32 0, .int .u32 0, .int .u32 0, .int .u32 0, .int .u32 0, .int .u32 0, .int .u32 0, .int .u32 0, .int .u32 0, .int .u32 0] 55)).alloc (.cells #[.int .u32 0, .int .u32 0, .int .u32 0, .int .u32 0, .int .u32 0, .int .u32 0, .int .u32 0, .int .u32 0, .int .u32 0, .int .u32 0, .int .u32 0, .int .u32 0, .int .u32 0, .int .u32 0, .int .u32 0, .int .u32 0] 55))).heap[w.heap.size + 1]? = some (.cells #[.int .u32 0, .int .u32 0, .int .u32 0, .int .u32 0, .int .u32 0, .int .u32 0, .int .u32 0, .int .u32 0] 45 (0, 0)) := (heap4 w _ _ _ _).2.1
  have hm1 : (((((w.alloc (.cells #[.int .u32 h0, .int .u32 h1, .int .u32 h2, .int .u32 h3, .int .u32 h4, .int .u32 h5, .int .u32 h6, .int .u32 h7] 45)).alloc (.cells #[.int .u32 0, .int .u32 0, .int .u32 0, .int .u32 0, .int .u32 0, .int .u32 0, .int .u32 0, .int .u32 0] 45)).alloc (.cells #[.int .u32 0, .int .u32 0, .int .u32 0, .int .u32 0, .int .u32 0, .int .u32 0, .int .u32 0, .int .u32 0, .int .u32 0, .int .u32 0, .int .u32 0, .int .u32 0, .int .u32 0, .int .u32 0, .int .u32 0, .int .u32 0] 55)).alloc (.cells #[.int .u32 0, .int .u32 0, .int .u32 0, .int .u32 0, .int .u32 0, .int .u32 0, .int .u32 0, .int .u32 0, .int .u32 0, .int .u32 0, .int .u32 0, .int .u32 0, .int .u32 0, .int .u32 0, .int .u32 0, .int .u32 0] 55))).heap[w.heap.size + 1 + 1]? = some (.cells #[.int .u32 0, .int .u32 0, .int .u32 0, .int .u32 0, .int .u32 0, .int .u32 0, .int .u32 0, .int .u32 0, .int .u32 0, .int .u32 0, .int .u32 0, .int .u32 0, .int .u32 0, .int .u32 0, .int .u32 0, .int .u32 0] 55 (0, 0)) := (heap4 w _ _ _ _).2.2.1
  have hv1 : (((((w.alloc (.cells #[.int .u32 h0, .int .u32 h1, .int .u32 h2, .int .u32 h3, .int .u32 h4, .int .u32 h5, .int .u32 h6, .int .u32 h7] 45)).alloc (.cells #[.int .u32 0, .int .u32 0, .int .u32 0, .int .u32 0, .int .u32 0, .int .u32 0, .int .u32 0, .int .u32 0] 45)).alloc (.cells #[.int .u32 0, .int .u32 0, .int .u32 0, .int .u32 0, .int .u32 0, .int .u32 0, .int .u32 0, .int .u32 0, .int .u32 0, .int .u32 0, .int .u32 0, .int .u32 0, .int .u32 0, .int .u32 0, .int .u32 0, .int .u32 0] 55)).alloc (.cells #[.int .u32 0, .int .u32 0, .int .u32 0, .int .u32 0, .int .u32 0, .int .u32 0, .int .u32 0, .int .u32 0, .int .u32 0, .int .u32 0, .int .u32 0, .int .u32 0, .int .u32 0, .int .u32 0, .int .u32 0, .int .u32 0] 55))).heap[w.heap.size + 1 + 1 + 1]? = some (.cells #[.int .u32 0, .int .u32 0, .int .u32 0, .int .u32 0, .int .u32 0, .int .u32 0, .int .u32 0, .int .u32 0, .int .u32 0, .int .u32 0, .int .u32 0, .int .u32 0, .int .u32 0, .int .u32 0, .int .u32 0, .int .u32 0] 55 (0, 0)) := (heap4 w _ _ _ _).2.2.2
  have hb1 : Below w.heap.size w ((((w.alloc (.cells #[.int .u32 h0, .int .u32 h1, .int .u32 h2, .int .u32 h3, .int .u32 h4, .int .u32 h5, .int .u32 h6, .int .u32 h7] 45)).alloc (.cells #[.int .u32 0, .int .u32 0, .int .u32 0, .int .u32 0, .int .u32 0, .int .u32 0, .int .u32 0, .int .u32 0] 45)).alloc (.cells #[.int .u32 0, .int .u32 0, .int .u32 0, .int .u32 0, .int .u32 0, .int .u32 0, .int .u32 0, .int .u32 0, .int .u32 0, .int .u32 0, .int .u32 0, .int .u32 0, .int .u32 0, .int .u32 0, .int .u32 0, .int .u32 0] 55)).alloc (.cells #[.int .u32 0, .int .u32 0, .int .u32 0, .int .u32 0, .int .u32 0, .int .u32 0, .int .u32 0, .int .u32 0, .int .u32 0, .int .u32 0, .int .u32 0, .int .u32 0, .int .u32 0, .int .u32 0, .int .u32 0, .int .u32 0] 55)) := ((((Below.refl _ _).alloc (Nat.le_refl _) _).alloc (by simp) _).alloc (by simp; omega) _).alloc (by simp; omega) _
  have hsz : ((((w.alloc (.cells #[.int .u32 h0, .int .u32 h1, .int .u32 h2, .int .u32 h3, .int .u32 h4, .int .u32 h5, .int .u32 h6, .int .u32 h7] 45)).alloc (.cells #[.int .u32 0, .int .u32 0, .int .u32 0, .int .u32 0, .int .u32 0, .int .u32 0, .int .u32 0, .int .u32 0] 45)).alloc (.cells #[.int .u32 0, .int .u32 0, .int .u32 0, .int .u32 0, .int .u32 0, .int .u32 0, .int .u32 0, .int .u32 0, .int .u32 0, .int .u32 0, .int .u32 0, .int .u32 0, .int .u32 0, .int .u32 0, .int .u32 0, .int .u32 0] 55)).alloc (.cells #[.int .u32 0, .int .u32 0, .int .u32 0, .int .u32 0, .int .u32 0, .int .u32 0, .int .u32 0, .int .u32 0, .int .u32 0, .int .u32 0, .int .u32 0, .int .u32 0, .int .u32 0, .int .u32 0, .int .u32 0, .int .u32 0] 55)).heap.size = w.heap.size + 4 := by simp
  have hm2 : CellsAt ((((w.alloc (.cells #[.int .u32 h0, .int .u32 h1, .int .u32 h2, .int .u32 h3, .int .u32 h4, .int .u32 h5, .int .u32 h6, .int .u32 h7] 45)).alloc (.cells #[.int .u32 0, .int .u32 0, .int .u32 0, .int .u32 0, .int .u32 0, .int .u32 0, .int .u32 0, .int .u32 0] 45)).alloc (.cells #[.int .u32 0, .int .u32 0, .int .u32 0, .int .u32 0, .int .u32 0, .int .u32 0, .int .u32 0, .int .u32 0, .int .u32 0, .int .u32 0, .int .u32 0, .int .u32 0, .int .u32 0, .int .u32 0, .int .u32 0, .int .u32 0] 55)).alloc (.cells #[.int .u32 0, .int .u32 0, .int .u32 0, .int .u32 0, .int .u32 0, .int .u32 0, .int .u32 0, .int .u32 0, .int .u32 0, .int .u32 0, .int .u32 0, .int .u32 0, .int .u32 0, .int .u32 0, .int .u32 0, .int .u32 0] 55)) (w.heap.size + 1 + 1) 0 (u32s (wordsQ s 0)) := CellsAt.of_heap hm1
  clear hm1
  generalize (((w.alloc (.cells #[.int .u32 h0, .int .u32 h1, .int .u32 h2, .int .u32 h3, .int .u32 h4, .int .u32 h5, .int .u32 h6, .int .u32 h7] 45)).alloc (.cells #[.int .u32 0, .int .u32 0, .int .u32 0, .int .u32 0, .int .u32 0, .int .u32 0, .int .u32 0, .int .u32 0] 45)).alloc (.cells #[.int .u32 0, .int .u32 0, .int .u32 0, .int .u32 0, .int .u32 0, .int .u32 0, .int .u32 0, .int .u32 0, .int .u32 0, .int .u32 0, .int .u32 0, .int .u32 0, .int .u32 0, .int .u32 0, .int .u32 0, .int .u32 0] 55)).alloc (.cells #[.int .u32 0, .int .u32 0, .int .u32 0, .int .u32 0, .int .u32 0, .int .u32 0, .int .u32 0, .int .u32 0, .int .u32 0, .int .u32 0, .int .u32 0, .int .u32 0, .int .u32 0, .int .u32 0, .int .u32 0, .int .u32 0] 55) = W1 at *
  generalize hBh : w.heap.size = Bh at hH1 hR1 hv1 hm2 hsz
  generalize hBr : Bh + 1 = Br at *
  generalize hBm : Br + 1 = Bm at *
  generalize hBv : Bm + 1 = Bv at *
  have HH1 := Lib.hid hH1
  have HR1 := Lib.hid hR1
  have HV1 := Lib.hid hv1
  have HM1 := Lib.hid hm2
  have HB1 := Lib.hid hb1
  clear hH1 hR1 hv1 hm2 hb1
  go_loopw [20] (fun i wr => ∃ k : Nat, i = .int .i64 k ∧ k ≤ s.size ∧ Hid (CellsAt wr Bm 0 (u32s (wordsQ s k))) ∧ Hid (wr.heap[Bh]? = some (.cells (u32s [h0, h1, h2, h3, h4, h5, h6, h7]).toArray 45 (0, 0))) ∧ Hid (wr.heap[Br]? = some (.cells z8A 45 (0, 0))) ∧ Hid (wr.heap[Bv]? = some (.cells z16A 55 (0, 0))) ∧ Hid (Below w.heap.size w wr)) (fun i _ => s.size - (intOf i).toNat)
  case atStart => exact ⟨0, rfl, by omega, HM1, HH1, HR1, HV1, HB1⟩
  case round =>
    clear HM1 HH1 HR1 HV1 HB1
    obtain ⟨k, rfl, hk, HM, HH, HR, HV, HB⟩ := hrel
    by_cases hlt : k < s.size
    · obtain ⟨q, hq⟩ : ∃ q : Nat, k / 4 = q := ⟨_, rfl⟩
      obtain ⟨r, hr⟩ : ∃ q : Nat, k % 4 = q := ⟨_, rfl⟩
      obtain ⟨m1, m2⟩ := u32s_get HM.out ((wordsQ_words s k).some (i := q) (by omega))
      have mb := (wordsQ_words s k).get (i := q) (by omega)
      rw [Nat.zero_add] at m1 m2
      generalize hmv : (wordsQ s k).getD q 0 = mv at m1 mb
      have HMV := Lib.hid hmv
      have i0 : (0 : Int) ≤ (k : Int) := by omega
      have i1 : (k : Int) < (s.size : Int) := by omega
      have i2 : (0 : Int) ≤ (q : Int) := by omega
      have i3 : (q : Int) < 16 := by omega
      have i4 : (0 : Int) ≤ (r : Int) := by omega
      have i5 : (r : Int) < 4 := by omega
      have e1 : IntKind.i64.wrap ((k : Int) / 4) = (q : Int) := by rw [IntWalk.i64_in _ (by omega)]; omega
      have e2 : (k : Int).tmod 4 = (r : Int) := by rw [Int.tmod_eq_emod_of_nonneg (by omega)]; omega
      obtain ⟨c, hc, hc2⟩ : ∃ c : Nat, (s[k]'hlt).toNat = c ∧ c < 256 := ⟨_, rfl, UInt8.toNat_lt _⟩
      have e4 : IntKind.u32.wrap ((s[k]'hlt).toNat : Int) = (c : Int) := by rw [hc, IntKind.wrap_u32]; omega
      have HC := Lib.hid hc
      have e3 : IntKind.i64.wrap (8 * (r : Int)) = 8 * (r : Int) := by rw [IntWalk.i64_in _ (by omega)]
      have HQ := Lib.hid hq
      have HRR := Lib.hid hr
      clear hmv hq hr hc
      go_wp2_with fail
      go_still_tail 14, (by kernel_rfl)
      change wpList _ _ _ _ _ (World.drew _)
      go_wp2_with fail
      go_roundw
      case rel =>
        have hfar : ∀ (j : Nat) (o : Option Obj) (u : Value), j ≠ Bm → wr.heap[j]? = o → ((wr.setCell ⟨Bm, q, none⟩ u).drew).heap[j]? = o := fun j o u hj h => (Below.heap_setCell _ _ _ _ hj).trans h
        exact ⟨k + 1, by go_num, by omega, words_next2 hlt hs64 HM.out HQ.out HRR.out HC.out HMV.out, hfar _ _ _ (by omega) HH.out, hfar _ _ _ (by omega) HR.out, hfar _ _ _ (by omega) HV.out, Lib.hid ((HB.out.setCell (p := ⟨Bm, q, none⟩) (by show _ ≤ Bm; omega) _).drew)⟩
      case measure => simp [intOf]; omega
    · have hke : k = s.size := by omega
      rw [hke] at HM
      clear hke
      have hsm : Bv < wr.heap.size := (Array.getElem?_eq_some_iff.1 HV.out).1
      go_wp2_with (first | (go_at_call 28; refine (begins_lit _).mono ?_; rintro e W2 ⟨rfl, hb2⟩))
      have HB3 : Hid (Below w.heap.size w (W2.alloc (.cells #[.int .u32 1779033703, .int .u32 3144134277, .int .u32 1013904242, .int .u32 2773480762, .int .u32 1359893119, .int .u32 2600822924, .int .u32 528734635, .int .u32 1541459225] 45))) := (HB.out.trans (hb2.mono HB.out.size)).alloc (by have := HB.out.size; have := hb2.size; omega) _
      have hbx : Below wr.heap.size wr (W2.alloc (.cells #[.int .u32 1779033703, .int .u32 3144134277, .int .u32 1013904242, .int .u32 2773480762, .int .u32 1359893119, .int .u32 2600822924, .int .u32 528734635, .int .u32 1541459225] 45)) := hb2.alloc hb2.size _
      have HM3 : Hid (CellsAt (W2.alloc (.cells #[.int .u32 1779033703, .int .u32 3144134277, .int .u32 1013904242, .int .u32 2773480762, .int .u32 1359893119, .int .u32 2600822924, .int .u32 528734635, .int .u32 1541459225] 45)) Bm 0 (u32s (wordsQ s s.size))) := HM.out.below hbx
      have HH3 : Hid ((W2.alloc (.cells #[.int .u32 1779033703, .int .u32 3144134277, .int .u32 1013904242, .int .u32 2773480762, .int .u32 1359893119, .int .u32 2600822924, .int .u32 528734635, .int .u32 1541459225] 45)).heap[Bh]? = some (.cells (u32s [h0, h1, h2, h3, h4, h5, h6, h7]).toArray 45 (0, 0))) := (hbx.block Bh (by omega)).trans HH.out
      have HR3 : Hid ((W2.alloc (.cells #[.int .u32 1779033703, .int .u32 3144134277, .int .u32 1013904242, .int .u32 2773480762, .int .u32 1359893119, .int .u32 2600822924, .int .u32 528734635, .int .u32 1541459225] 45)).heap[Br]? = some (.cells z8A 45 (0, 0))) := (hbx.block Br (by omega)).trans HR.out
      have HV3 : Hid ((W2.alloc (.cells #[.int .u32 1779033703, .int .u32 3144134277, .int .u32 1013904242, .int .u32 2773480762, .int .u32 1359893119, .int .u32 2600822924, .int .u32 528734635, .int .u32 1541459225] 45)).heap[Bv]? = some (.cells z16A 55 (0, 0))) := (hbx.block Bv (by omega)).trans HV.out
      have HI3 : Hid ((W2.alloc (.cells #[.int .u32 1779033703, .int .u32 3144134277, .int .u32 1013904242, .int .u32 2773480762, .int .u32 1359893119, .int .u32 2600822924, .int .u32 528734635, .int .u32 1541459225] 45)).heap[W2.heap.size]? = some (.cells (u32s beginsL).toArray 45 (0, 0))) := heap_alloc_new W2 _
      have hle := hb2.size
      clear hb2 hbx HM HH HR HV HB
      generalize W2.alloc (.cells #[.int .u32 1779033703, .int .u32 3144134277, .int .u32 1013904242, .int .u32 2773480762, .int .u32 1359893119, .int .u32 2600822924, .int .u32 528734635, .int .u32 1541459225] 45) = W3 at *
      generalize W2.heap.size = Biv at *
      clear W2
      go_still_tail 2, (by kernel_rfl)
      change wpList _ _ _ _ _ (World.drew _)
      refine wpList_copy_own rfl (.tmp 39) (.tmp 40) 61 61 rfl 44 Try.underlying61 infoU32 Bv 0 16 16 ⟨Bh, 0, none⟩ 8 8 rfl rfl z16A 55 HV3.out (u32s [h0, h1, h2, h3, h4, h5, h6, h7]) rfl (src_of_heap HH3.out) (Nat.le_of_ble_eq_true rfl) (u32s_one _) ?_
      obtain ⟨X1, hX1⟩ : ∃ X, X = (z16A.toList.take 0 ++ (u32s [h0, h1, h2, h3, h4, h5, h6, h7] ++ z16A.toList.drop (0 + (u32s [h0, h1, h2, h3, h4, h5, h6, h7]).length))).toArray := ⟨_, rfl⟩
      rw [← hX1]
      have hk4 := Kept.setRow W3.drew Bv X1
      have HV4 : Hid ((W3.drew.setRow Bv X1).heap[Bv]? = some (.cells X1 55 (0, 0))) := setRow_heap _ _ _ _ _ _ HV3.out
      have HM4 : Hid (CellsAt (W3.drew.setRow Bv X1) Bm 0 (u32s (wordsQ s s.size))) := HM3.out.drew.kept hk4 (show ¬ Bm = Bv by omega)
      have HH4 : Hid ((W3.drew.setRow Bv X1).heap[Bh]? = some (.cells (u32s [h0, h1, h2, h3, h4, h5, h6, h7]).toArray 45 (0, 0))) := (setRow_other _ _ _ _ (by omega)).trans HH3.out
      have HR4 : Hid ((W3.drew.setRow Bv X1).heap[Br]? = some (.cells z8A 45 (0, 0))) := (setRow_other _ _ _ _ (by omega)).trans HR3.out
      have HI4 : Hid ((W3.drew.setRow Bv X1).heap[Biv]? = some (.cells (u32s beginsL).toArray 45 (0, 0))) := (setRow_other _ _ _ _ (by omega)).trans HI3.out
      have HB4 : Hid (Below w.heap.size w (W3.drew.setRow Bv X1)) := HB3.out.drew.trans (hk4.below HB3.out.size (fun k hk' e => by subst e; omega))
      have HX1 := Lib.hid hX1
      clear HM3 HH3 HR3 HV3 HI3 HB3 hk4 hX1
      generalize W3.drew.setRow Bv X1 = W4 at *
      go_wp2_with fail
      go_still_tail 2, (by kernel_rfl)
      change wpList _ _ _ _ _ (World.drew _)
      refine wpList_copy_own rfl (.tmp 42) (.tmp 43) 61 61 rfl 44 Try.underlying61 infoU32 Bv 8 8 8 ⟨Biv, 0, none⟩ 8 8 rfl rfl X1 55 HV4.out (u32s beginsL) rfl (src_of_heap HI4.out) (by rw [HX1.out]; exact Nat.le_of_ble_eq_true rfl) (u32s_one _) ?_
      obtain ⟨X2, hX2⟩ : ∃ X, X = (X1.toList.take 8 ++ (u32s beginsL ++ X1.toList.drop (8 + (u32s beginsL).length))).toArray := ⟨_, rfl⟩
      have hX2l : X2.toList = u32s ([h0, h1, h2, h3, h4, h5, h6, h7] ++ beginsL) := by rw [hX2, HX1.out]; rfl
      rw [← hX2]
      have hk5 := Kept.setRow W4.drew Bv X2
      have hv5 : CellsAt (W4.drew.setRow Bv X2) Bv 0 (u32s ([h0, h1, h2, h3, h4, h5, h6, h7] ++ beginsL)) := by rw [← hX2l]; exact CellsAt.of_heap (setRow_heap _ _ _ _ _ _ HV4.out)
      have HV := Lib.hid hv5
      have HM : Hid (CellsAt (W4.drew.setRow Bv X2) Bm 0 (u32s (wordsQ s s.size))) := HM4.out.drew.kept hk5 (show ¬ Bm = Bv by omega)
      have HH : Hid (CellsAt (W4.drew.setRow Bv X2) Bh 0 (u32s [h0, h1, h2, h3, h4, h5, h6, h7])) := CellsAt.kept (p := fun k => k = Bv) (w := W4.drew) (CellsAt.of_heap HH4.out) hk5 (show ¬ Bh = Bv by omega)
      have HR : Hid (CellsAt (W4.drew.setRow Bv X2) Br 0 (u32s (List.replicate 8 0))) := CellsAt.kept (p := fun k => k = Bv) (w := W4.drew) (CellsAt.of_heap HR4.out) hk5 (show ¬ Br = Bv by omega)
      have HB : Hid (Below w.heap.size w (W4.drew.setRow Bv X2)) := HB4.out.drew.trans (hk5.below HB4.out.size (fun k hk' e => by subst e; omega))
      clear HM4 HH4 HR4 HV4 HI4 HB4 hk5 hv5 hX2 hX2l HX1
      generalize W4.drew.setRow Bv X2 = W5 at *
      have hwv : Words 16 ([h0, h1, h2, h3, h4, h5, h6, h7] ++ beginsL) := hw.append begins_words
      obtain ⟨h3', f3⟩ := u32s_get HV.out (hwv.some (i := 12) (by omega))
      obtain ⟨h4', f4⟩ := u32s_get HV.out (hwv.some (i := 13) (by omega))
      obtain ⟨h5', f5⟩ := u32s_get HV.out (hwv.some (i := 14) (by omega))
      rw [Nat.zero_add] at h3' h4' h5' f3 f4 f5
      obtain ⟨v12, e12⟩ : ∃ x, ([h0, h1, h2, h3, h4, h5, h6, h7] ++ beginsL).getD 12 0 = x := ⟨_, rfl⟩
      obtain ⟨v13, e13⟩ : ∃ x, ([h0, h1, h2, h3, h4, h5, h6, h7] ++ beginsL).getD 13 0 = x := ⟨_, rfl⟩
      obtain ⟨v14, e14⟩ : ∃ x, ([h0, h1, h2, h3, h4, h5, h6, h7] ++ beginsL).getD 14 0 = x := ⟨_, rfl⟩
      rw [e12] at h3'; rw [e13] at h4'; rw [e14] at h5'
      have E12 := Lib.hid e12; have E13 := Lib.hid e13; have E14 := Lib.hid e14
      clear e12 e13 e14
      have q1 : IntKind.u32.wrap (n : Int) = (n : Int) := by rw [IntKind.wrap_u32]; omega
      have q2 : (n : Int) / 4294967296 = 0 := by omega
      have hne : Bm ≠ Bv := by omega
      have hsz1 : w.heap.size ≤ Bv := by omega
      obtain ⟨st1, st2⟩ := start_st (n := n) HM.out HV.out HB.out hne hsz1 hw E12.out E13.out E14.out
      have far : ∀ (W : World) (j : Nat) (u : Value), (CellsAt W Bh 0 (u32s [h0, h1, h2, h3, h4, h5, h6, h7]) → CellsAt (W.setCell ⟨Bv, j, none⟩ u) Bh 0 (u32s [h0, h1, h2, h3, h4, h5, h6, h7])) ∧ (CellsAt W Br 0 (u32s (List.replicate 8 0)) → CellsAt (W.setCell ⟨Bv, j, none⟩ u) Br 0 (u32s (List.replicate 8 0))) := fun W j u => ⟨fun h => h.set_far (Or.inl (show Bv ≠ Bh by omega)) u, fun h => h.set_far (Or.inl (show Bv ≠ Br by omega)) u⟩
      have FAR := Lib.hid far
      clear far
      obtain ⟨hs, hhs⟩ : ∃ hs, hs = [h0, h1, h2, h3, h4, h5, h6, h7] := ⟨_, rfl⟩
      rw [← hhs] at st1 st2 HH FAR hw
      have HHS := Lib.hid hhs
      clear hhs
      go_upto_if 58 with (fail)
      go_cut [] from 59 to 62 (fun wx => Hid (St w wx Bm Bv (wordsQ s s.size) (startQ hs n last)) ∧ Hid (CellsAt wx Bh 0 (u32s hs)) ∧ Hid (CellsAt wx Br 0 (u32s (List.replicate 8 0))))
      case first =>
        cases last
        · go_wp2_with fail
          go_meet
          exact ⟨st1, (FAR.out _ _ _).1 ((FAR.out _ _ _).1 HH.out), (FAR.out _ _ _).2 ((FAR.out _ _ _).2 HR.out)⟩
        · go_wp2_with fail
          go_meet
          exact ⟨st2, (FAR.out _ _ _).1 ((FAR.out _ _ _).1 ((FAR.out _ _ _).1 HH.out)), (FAR.out _ _ _).2 ((FAR.out _ _ _).2 ((FAR.out _ _ _).2 HR.out))⟩
      case rest =>
      obtain ⟨HS, HH2, HR2⟩ := hcut
      clear st1 st2 HM HV HH HR HB h3' h4' h5' f3 f4 f5 E12 E13 E14 FAR
      go_wp2_with (first | (go_at_call 34; refine (orders_any _).mono ?_; rintro e W6 ⟨rfl, hb6⟩))
      have HS6 := Lib.hid (HS.out.below hb6)
      have HH6 := Lib.hid (HH2.out.below hb6)
      have HR6 := Lib.hid (HR2.out.below hb6)
      clear hb6 HS HH2 HR2
      obtain ⟨v0, hv0⟩ : ∃ v0, v0 = startQ hs n last := ⟨_, rfl⟩
      have hwv0 : Words 16 v0 := by rw [hv0]; exact startQ_words hw n last
      rw [← hv0] at HS6
      have HV0 := Lib.hid hv0
      clear hv0
      obtain ⟨ms, hms⟩ : ∃ ms, ms = wordsQ s s.size := ⟨_, rfl⟩
      have hwms : Words 16 ms := by rw [hms]; exact wordsQ_words _ _
      rw [← hms] at HS6
      have HMS := Lib.hid hms
      clear hms
      go_loopw [64] (fun i wr => ∃ r : Nat, i = .int .i64 r ∧ r ≤ 10 ∧ Hid (St w wr Bm Bv ms (roundsQ ms v0 r)) ∧ Hid (CellsAt wr Bh 0 (u32s hs)) ∧ Hid (CellsAt wr Br 0 (u32s (List.replicate 8 0)))) (fun i _ => 10 - (intOf i).toNat)
      case atStart => exact ⟨0, rfl, by omega, HS6, HH6, HR6⟩
      case round =>
        clear HS6 HH6 HR6
        obtain ⟨r, rfl, hr, HS, HH, HR⟩ := hrel
        by_cases hr10 : r < 10
        · have hrd : decide ((r : Int) < 10) = true := by simp; omega
          obtain ⟨wq, rfl⟩ : ∃ wq : World, wq = wr := ⟨_, rfl⟩
          have hidx := fun W => index_row hr10 W
          have hrs : (rowC r).size = 16 := rowC_size r hr10
          have hst2 := run_storeCells_new (P := Try.prog) wq 56 #[.int .i64 0, .int .i64 0, .int .i64 0, .int .i64 0, .int .i64 0, .int .i64 0, .int .i64 0, .int .i64 0, .int .i64 0, .int .i64 0, .int .i64 0, .int .i64 0, .int .i64 0, .int .i64 0, .int .i64 0, .int .i64 0] (rowC r) (by rw [rowC_size r hr10]; exact infoI16) (by rw [rowC_size r hr10]; rfl) (rowC_one r hr10)
          have j0 : (0 : Int) ≤ (r : Int) := by omega
          have j1 : (r : Int) < 10 := by omega
          go_wp2_with fail
          have HS7 := Lib.hid (HS.out.alloc (.cells (rowC r) 56))
          have HH7 := Lib.hid (HH.out.alloc (.cells (rowC r) 56))
          have HR7 := Lib.hid (HR.out.alloc (.cells (rowC r) 56))
          have hk7 : CellsAt (wq.alloc (.cells (rowC r) 56)) wq.heap.size 0 (nats (rowsL.getD r [])) := by rw [← rowC_eq]; exact CellsAt.new wq _ _
          have HK7 := Lib.hid hk7
          have hlk : Bv < wq.heap.size := HS.out.v.1
          clear hk7 HS HH HR hst2 hidx
          generalize wq.alloc (.cells (rowC r) 56) = W7 at *
          generalize wq.heap.size = Bk at *
          refine (quarters_any _).mono ?_
          rintro e W8 ⟨rfl, hb8⟩
          have HS8 := Lib.hid (HS7.out.below hb8)
          have HH8 := Lib.hid (HH7.out.below hb8)
          have HR8 := Lib.hid (HR7.out.below hb8)
          have HK8 := Lib.hid (HK7.out.below hb8)
          clear hb8 HS7 HH7 HR7 HK7
          obtain ⟨u, hu⟩ : ∃ u, u = roundsQ ms v0 r := ⟨_, rfl⟩
          have hwu : Words 16 u := by rw [hu]; exact roundsQ_words r hwv0
          rw [← hu] at HS8
          have HU := Lib.hid hu
          clear hu
          go_wp2_with fail
          obtain ⟨rw_, hrw⟩ : ∃ l, l = rowsL.getD r [] := ⟨_, rfl⟩
          rw [← hrw] at HK8
          have HRW := Lib.hid hrw
          clear hrw
          go_loopw [68] (fun i wr => ∃ k : Nat, i = .int .i64 k ∧ k ≤ 8 ∧ Hid (St w wr Bm Bv ms ((List.range k).foldl (stepQ ms r) u)) ∧ Hid (CellsAt wr Bh 0 (u32s hs)) ∧ Hid (CellsAt wr Br 0 (u32s (List.replicate 8 0))) ∧ Hid (CellsAt wr Bk 0 (nats rw_))) (fun i _ => 8 - (intOf i).toNat)
          case atStart => exact ⟨0, rfl, by omega, HS8, HH8, HR8, HK8⟩
          case round =>
            clear HS8 HH8 HR8 HK8
            obtain ⟨i, rfl, hi, HS, HH, HR, HK⟩ := hrel
            by_cases hi8 : i < 8
            · have hid : decide ((i : Int) < 8) = true := by simp; omega
              obtain ⟨wq, rfl⟩ : ∃ wq : World, wq = wr := ⟨_, rfl⟩
              obtain ⟨a, b, c, d, hq, hidx⟩ := index_quarter hi8
              have hord := quarter_ord i hi8
              rw [hq] at hord
              simp only at hord
              have HQ := Lib.hid hq
              have k0 : (0 : Int) ≤ (i : Int) := by omega
              have k1 : (i : Int) < 8 := by omega
              clear hq
              go_wp2_with fail
              have HS9 := Lib.hid (HS.out.alloc (.cells #[.int .i64 (a : Int), .int .i64 (b : Int), .int .i64 (c : Int), .int .i64 (d : Int)] 62))
              have HH9 := Lib.hid (HH.out.alloc (.cells #[.int .i64 (a : Int), .int .i64 (b : Int), .int .i64 (c : Int), .int .i64 (d : Int)] 62))
              have HR9 := Lib.hid (HR.out.alloc (.cells #[.int .i64 (a : Int), .int .i64 (b : Int), .int .i64 (c : Int), .int .i64 (d : Int)] 62))
              have HK9 := Lib.hid (HK.out.alloc (.cells #[.int .i64 (a : Int), .int .i64 (b : Int), .int .i64 (c : Int), .int .i64 (d : Int)] 62))
              have HQ9 := Lib.hid (CellsAt.new wq #[.int .i64 (a : Int), .int .i64 (b : Int), .int .i64 (c : Int), .int .i64 (d : Int)] 62)
              clear HS HH HR HK hidx
              generalize wq.alloc (.cells #[.int .i64 (a : Int), .int .i64 (b : Int), .int .i64 (c : Int), .int .i64 (d : Int)] 62) = W9 at *
              generalize wq.heap.size = Bq at *
              have q0 := nats_at' HQ9.out (i := 0) rfl
              have q1' := nats_at' HQ9.out (i := 1) rfl
              have q2' := nats_at' HQ9.out (i := 2) rfl
              have q3' := nats_at' HQ9.out (i := 3) rfl
              have lx : rowAt r (2 * i) < 16 := rowAt_lt r hr10 _ (by omega)
              have ly : rowAt r (2 * i + 1) < 16 := rowAt_lt r hr10 _ (by omega)
              have kx := nats_get HK9.out (i := 2 * i) (by rw [HRW.out, rowL_len r hr10]; omega)
              have ky := nats_get HK9.out (i := 2 * i + 1) (by rw [HRW.out, rowL_len r hr10]; omega)
              rw [Nat.zero_add] at kx ky
              rw [show rw_.getD (2 * i) 0 = rowAt r (2 * i) by rw [HRW.out]; rfl] at kx
              rw [show rw_.getD (2 * i + 1) 0 = rowAt r (2 * i + 1) by rw [HRW.out]; rfl] at ky
              obtain ⟨x, mx, bx, HX⟩ := word_at' HS9.out.m hwms lx
              obtain ⟨y, my, by_, HY⟩ := word_at' HS9.out.m hwms ly
              obtain ⟨ax, hax⟩ : ∃ ax, ax = rowAt r (2 * i) := ⟨_, rfl⟩
              obtain ⟨ay, hay⟩ : ∃ ay, ay = rowAt r (2 * i + 1) := ⟨_, rfl⟩
              rw [← hax] at lx kx mx HX
              rw [← hay] at ly ky my HY
              have HAX := Lib.hid hax
              have HAY := Lib.hid hay
              clear hax hay
              have p1 : (0 : Int) ≤ (ax : Int) := by omega
              have p2 : (ax : Int) < 16 := by omega
              have p3 : (0 : Int) ≤ (ay : Int) := by omega
              have p4 : (ay : Int) < 16 := by omega
              have p5 : (0 : Int) ≤ 2 * (i : Int) := by omega
              have p6 : 2 * (i : Int) < 16 := by omega
              have p7 : (0 : Int) ≤ 2 * (i : Int) + 1 := by omega
              have p8 : 2 * (i : Int) + 1 < 16 := by omega
              have e1 : IntKind.i64.wrap (2 * (i : Int)) = 2 * (i : Int) := by rw [IntWalk.i64_in _ (by omega)]
              have e2 : IntKind.i64.wrap (2 * (i : Int) + 1) = 2 * (i : Int) + 1 := by rw [IntWalk.i64_in _ (by omega)]
              have e3 : (2 * (i : Int)).toNat = 2 * i := by omega
              have e4 : (2 * (i : Int) + 1).toNat = 2 * i + 1 := by omega
              go_still_tail 14, (by kernel_rfl)
              change wpList _ _ _ _ _ (World.drew _)
              go_wp2_with fail
              obtain ⟨ui, hui⟩ : ∃ ui, ui = (List.range i).foldl (stepQ ms r) u := ⟨_, rfl⟩
              have hwi : Words 16 ui := by rw [hui]; exact foldl_words _ (fun _ _ h => stepQ_words _ _ h) _ _ hwu
              rw [← hui] at HS9
              have HUI := Lib.hid hui
              clear hui
              refine (mix_any Bv ui a b c d _ _ _ _ x y _ (four_of HS9.out.v.drew hwi hord) bx by_).mono ?_
              rintro e V hmx
              obtain ⟨rfl, hc, hkp⟩ := mixed_of hmx
              have HST := Lib.hid (HS9.out.drew.mixed hne hsz1 hc hkp)
              have HHT := Lib.hid (HH9.out.drew.kept hkp (show ¬ Bh = Bv by omega))
              have HRT := Lib.hid (HR9.out.drew.kept hkp (show ¬ Br = Bv by omega))
              have HKT := Lib.hid (HK9.out.drew.kept hkp (show ¬ Bk = Bv by omega))
              have hsp : Hid (mixAt ui a b c d x y = (List.range (i + 1)).foldl (stepQ ms r) u) := by
                rw [Hid, range_step, ← HUI.out, stepQ, HQ.out, ← HAX.out, ← HAY.out, HX.out, HY.out]
              clear hmx hc hkp HS9 HH9 HR9 HK9 HQ9 q0 q1' q2' q3' kx ky mx my
              go_wp2_with fail
              go_roundw
              case rel =>
                have hz := HST.out
                rw [hsp.out] at hz
                exact ⟨i + 1, by go_num, by omega, Lib.hid hz, HHT, HRT, HKT⟩
              case measure => simp [intOf]; omega
            · have hie : i = 8 := by omega
              rw [hie] at HS
              clear hie
              go_wp2_with fail
              go_roundw
              case rel =>
                have hz := HS.out
                rw [show (List.range 8).foldl (stepQ ms r) u = roundsQ ms v0 (r + 1) by rw [roundsQ_succ, ← HU.out, roundQ]] at hz
                exact ⟨r + 1, by go_num, by omega, Lib.hid hz, HH, HR⟩
              case measure => simp [intOf]; omega
        · have hre : r = 10 := by omega
          rw [hre] at HS
          clear hre
          obtain ⟨vs, hvs⟩ : ∃ vs, vs = roundsQ ms v0 10 := ⟨_, rfl⟩
          have hwvs : Words 16 vs := by rw [hvs]; exact roundsQ_words 10 hwv0
          rw [← hvs] at HS
          have HVS := Lib.hid hvs
          have HG : Hid (CellsAt wr Bh 0 (u32s (endK hs vs 0))) := HH.out
          have HV := Lib.hid HS.out.v
          have HB := Lib.hid HS.out.b
          have hgv : Bh ≠ Bv := by omega
          have hgr : Bh ≠ Br := by omega
          clear hvs HH HS
          go_wp2_with fail
          go_loopw [89] (fun i wr => ∃ k : Nat, i = .int .i64 k ∧ k ≤ 8 ∧ Hid (CellsAt wr Bh 0 (u32s (endK hs vs k))) ∧ Hid (CellsAt wr Bv 0 (u32s vs)) ∧ Hid (CellsAt wr Br 0 (u32s (List.replicate 8 0))) ∧ Hid (Below w.heap.size w wr)) (fun i _ => 8 - (intOf i).toNat)
          case atStart => exact ⟨0, rfl, by omega, HG, HV, HR, HB⟩
          case round =>
            clear HG HV HR HB
            obtain ⟨k, rfl, hk, HG, HV, HR, HB⟩ := hrel
            by_cases hlt : k < 8
            · have hkd : decide ((k : Int) < 8) = true := by simp; omega
              obtain ⟨g1, f1⟩ := u32s_get HG.out ((endK_words hw k).some (i := k) (by omega))
              obtain ⟨g2, _⟩ := u32s_get HV.out (hwvs.some (i := k) (by omega))
              obtain ⟨g3, _⟩ := u32s_get HV.out (hwvs.some (i := k + 8) (by omega))
              rw [endK_later k k (Nat.le_refl _)] at g1
              rw [Nat.zero_add] at g1 g2 g3 f1
              generalize hx : hs.getD k 0 = x at g1
              generalize hy : vs.getD k 0 = y at g2
              generalize hz : vs.getD (k + 8) 0 = z at g3
              have HX := Lib.hid hx
              have HY := Lib.hid hy
              have HZ := Lib.hid hz
              clear hx hy hz
              have i0 : (0 : Int) ≤ (k : Int) := by omega
              have i1 : (k : Int) + 8 < 16 := by omega
              have i2 : (0 : Int) ≤ (k : Int) + 8 := by omega
              have i3 : (k : Int) < 16 := by omega
              have i4 : (k : Int) < 8 := by omega
              have e1 : IntKind.i64.wrap ((k : Int) + 8) = (k : Int) + 8 := by rw [IntWalk.i64_in _ (by omega)]
              have e2 : ((k : Int) + 8).toNat = k + 8 := by omega
              go_wp2_with fail
              go_still_tail 13, (by kernel_rfl)
              change wpList _ _ _ _ _ (World.drew _)
              go_wp2_with fail
              go_roundw
              case rel => exact ⟨k + 1, by go_num, by omega, Lib.hid (by rw [xor_assoc32]; exact (end_next HG.out hw hlt HX.out HY.out HZ.out).drew), Lib.hid (HV.out.set_far (Or.inl hgv) _).drew, Lib.hid (HR.out.set_far (Or.inl hgr) _).drew, Lib.hid ((HB.out.setCell (p := ⟨Bh, k, none⟩) (by show _ ≤ Bh; omega) _).drew)⟩
              case measure => simp [intOf]; omega
            · have hke : k = 8 := by omega
              rw [hke, endK_all hw.1, HVS.out, HV0.out, HMS.out] at HG
              rw [show (List.range 8).map (endQ hs (roundsQ (wordsQ s s.size) (startQ hs n last) 10)) = blockQ hs s n last from rfl, HHS.out] at HG
              clear hke
              obtain ⟨z0, z1, z2, z3, z4, z5, z6, z7, hzz⟩ := list8 (blockQ_words [h0, h1, h2, h3, h4, h5, h6, h7] s n last).1
              rw [hzz] at HG
              have c0 := nats_at' HG.out (i := 0) rfl
              have c1 := nats_at' HG.out (i := 1) rfl
              have c2 := nats_at' HG.out (i := 2) rfl
              have c3 := nats_at' HG.out (i := 3) rfl
              have c4 := nats_at' HG.out (i := 4) rfl
              have c5 := nats_at' HG.out (i := 5) rfl
              have c6 := nats_at' HG.out (i := 6) rfl
              have c7 := nats_at' HG.out (i := 7) rfl
              have d0 := nats_at' HR.out (i := 0) rfl
              have d1 := nats_at' HR.out (i := 1) rfl
              have d2 := nats_at' HR.out (i := 2) rfl
              have d3 := nats_at' HR.out (i := 3) rfl
              have d4 := nats_at' HR.out (i := 4) rfl
              have d5 := nats_at' HR.out (i := 5) rfl
              have d6 := nats_at' HR.out (i := 6) rfl
              have d7 := nats_at' HR.out (i := 7) rfl
              have fz : ∀ j, j < 8 → wr.frozen? ⟨Br, j, none⟩ = false := fun j hj => by have := HR.out.free (i := j) hj; rwa [Nat.zero_add] at this
              have f0 := fz 0 (by omega)
              have f1 := fz 1 (by omega)
              have f2 := fz 2 (by omega)
              have f3 := fz 3 (by omega)
              have f4 := fz 4 (by omega)
              have f5 := fz 5 (by omega)
              have f6 := fz 6 (by omega)
              have f7 := fz 7 (by omega)
              clear fz
              have HZ := Lib.hid hzz
              have hbr : w.heap.size ≤ Br := by omega
              clear hzz
              go_wp2_with fail
              refine bodyPost_ret (v := .agg #[.int .u32 z0, .int .u32 z1, .int .u32 z2, .int .u32 z3, .int .u32 z4, .int .u32 z5, .int .u32 z6, .int .u32 z7]) (by simp [results, Try.results29, go_sem, d0, d1, d2, d3, d4, d5, d6, d7]) rfl ⟨by rw [HZ.out]; rfl, ?_⟩
              exact (((((((HB.out.setCell (p := ⟨Br, 0, none⟩) hbr _).setCell (p := ⟨Br, 1, none⟩) hbr _).setCell (p := ⟨Br, 2, none⟩) hbr _).setCell (p := ⟨Br, 3, none⟩) hbr _).setCell (p := ⟨Br, 4, none⟩) hbr _).setCell (p := ⟨Br, 5, none⟩) hbr _).setCell (p := ⟨Br, 6, none⟩) hbr _).setCell (p := ⟨Br, 7, none⟩) hbr _
end Go.Proofs.Ytnpngkbcfkolnaa
