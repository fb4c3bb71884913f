/- The digest's tables: what the page and the program say. -/
import Derived.Test.YtnpngkbcfkolnaaDigA
import Derived.Deep.WholeRow
namespace Go.Proofs.Ytnpngkbcfkolnaa
open Go.ChangeShapes Go.WideShapes Go.ChangeAt Go.RowKit Go.Joins
set_option linter.unusedVariables false
set_option linter.unusedSimpArgs false

def beginsL : List Int := [1779033703, 3144134277, 1013904242, 2773480762, 1359893119, 2600822924, 528734635, 1541459225]
def beginsV : Value := .agg (u32s beginsL).toArray
def rowsL : List (List Nat) := [
  [0, 1, 2, 3, 4, 5, 6, 7, 8, 9, 10, 11, 12, 13, 14, 15],
  [14, 10, 4, 8, 9, 15, 13, 6, 1, 12, 0, 2, 11, 7, 5, 3],
  [11, 8, 12, 0, 5, 2, 15, 13, 10, 14, 3, 6, 7, 1, 9, 4],
  [7, 9, 3, 1, 13, 12, 11, 14, 2, 6, 5, 10, 4, 0, 15, 8],
  [9, 0, 5, 7, 2, 4, 10, 15, 14, 1, 11, 12, 6, 8, 3, 13],
  [2, 12, 6, 10, 0, 11, 8, 3, 4, 13, 7, 5, 15, 14, 1, 9],
  [12, 5, 1, 15, 14, 13, 4, 10, 0, 7, 6, 3, 9, 2, 8, 11],
  [13, 11, 7, 14, 12, 1, 3, 9, 5, 0, 15, 4, 8, 6, 2, 10],
  [6, 15, 14, 9, 11, 3, 0, 8, 12, 2, 13, 7, 1, 4, 10, 5],
  [10, 2, 8, 4, 7, 6, 1, 5, 15, 11, 9, 14, 3, 12, 13, 0]]
def natV (n : Nat) : Value := .int .i64 (n : Int)
def rowsV : Value := .agg (rowsL.flatten.map natV).toArray
def quartersL : List (List Nat) := [[0, 4, 8, 12], [1, 5, 9, 13], [2, 6, 10, 14], [3, 7, 11, 15], [0, 5, 10, 15], [1, 6, 11, 12], [2, 7, 8, 13], [3, 4, 9, 14]]
def quartersV : Value := .agg (quartersL.flatten.map natV).toArray


theorem zero160 : (Try.prog.info? 57).map (fun i => (i.zero, i.size)) = some (some (.agg (Array.replicate 160 (.int .i64 0))), 160) := by kernel_rfl

set_option maxRecDepth 100000 in
set_option maxHeartbeats 1000000 in
theorem refBegins_any (w : World) :
    Calls Try.prog 26 #[] w fun e w' => e = .returned beginsV ∧ Below w.heap.size w w' := by
  go_enter Try.func26, Try.ntmps26
  go_wp2_with fail
  exact bodyPost_ret (v := beginsV) (by simp [results, Try.results26, go_sem, beginsV, u32s, beginsL]) rfl ⟨rfl, (Below.refl _ _).alloc (Nat.le_refl _) _⟩

def rowsC : Array Value := (rowsL.flatten.map natV).toArray
theorem rowsC_size : rowsC.size = 160 := by kernel_rfl
theorem rowsC_one : rowsC.all (·.oneCell') = true := by kernel_rfl
def rowC (i : Nat) : Array Value := ((rowsL.getD i []).map natV).toArray

def rowD (o : Oper) : Array Value := match o.dst with
  | some k => rowC (k - 1)
  | none => #[]
theorem build_at {P : Program} {ops : Array Oper} {rest : List Oper} {o : Oper} {a : Act} {w : World} {Q : Exit → Act → World → Prop} (hg : o.guard = none) (t : TypeId) (parts : Array (Nat × Operand)) (ho : o.op = .build t parts) (C : Array Value)
    (hC : P.built t (parts.map fun (i, x) => (i, a.eval x)).toList = some C)
    (h : wpList P ops Q rest (a.put o.dst (.agg C)) w) : wpList P ops Q (o :: rest) a w := by
  refine wpList_build hg t parts ho (by rw [hC]; rfl) ?_
  rw [hC]
  exact h
theorem build_row {P : Program} {ops : Array Oper} {rest : List Oper} {o : Oper} {a : Act} {w : World} {Q : Exit → Act → World → Prop} (hg : o.guard = none) (t : TypeId) (parts : Array (Nat × Operand)) (ho : o.op = .build t parts)
    (hC : P.built t (parts.map fun (i, x) => (i, a.eval x)).toList = some (rowD o))
    (h : wpList P ops Q rest (a.put o.dst (.agg (rowD o))) w) : wpList P ops Q (o :: rest) a w := build_at hg t parts ho _ hC h

set_option maxRecDepth 100000 in
set_option maxHeartbeats 200000 in
theorem refRows_any (w : World) :
    Calls Try.prog 32 #[] w fun e w' => e = .returned (.agg rowsC) ∧ Below w.heap.size w w' := by
  obtain ⟨hz, hi⟩ := zero_of_info zero160
  obtain ⟨Z, hZ⟩ : ∃ Z : Array Value, Z = Array.replicate 160 (.int .i64 0) := ⟨_, rfl⟩
  have hZs : Z.size = 160 := by rw [hZ]; simp
  rw [← hZ] at hz
  clear hZ
  have hst := run_storeCells_new (P := Try.prog) w 57 Z rowsC (by rw [rowsC_size]; exact hi) (by rw [hZs, rowsC_size]) rowsC_one
  have HI := Lib.hid hi
  clear hZs hi
  go_enter Try.func32, Try.ntmps32
  go_wp2_with (first | (refine build_row rfl 56 _ rfl (by kernel_rfl) ?_) | (refine build_at rfl 57 _ rfl rowsC (by kernel_rfl) ?_))
  refine bodyPost_ret (results_cell_row rfl _ _ w.heap.size 57 rowsC _ _ rfl (heap_alloc_new w _) Try.underlying57 rfl (by rw [rowsC_size]; exact HI.out)) rfl ⟨rfl, (Below.refl _ _).alloc (Nat.le_refl _) _⟩

set_option maxRecDepth 100000 in
set_option maxHeartbeats 200000 in
theorem orders_any (w : World) :
    Calls Try.prog 34 #[] w fun e w' => e = .returned (.agg rowsC) ∧ Below w.heap.size w w' := by
  obtain ⟨hz, hi⟩ := zero_of_info zero160
  obtain ⟨Z, hZ⟩ : ∃ Z : Array Value, Z = Array.replicate 160 (.int .i64 0) := ⟨_, rfl⟩
  have hZs : Z.size = 160 := by rw [hZ]; simp
  rw [← hZ] at hz
  clear hZ
  have hst := run_storeCells_new (P := Try.prog) w 57 Z rowsC (by rw [rowsC_size]; exact hi) (by rw [hZs, rowsC_size]) rowsC_one
  have HI := Lib.hid hi
  clear hZs hi
  go_enter Try.func34, Try.ntmps34
  go_wp2_with (first | (refine build_row rfl 56 _ rfl (by kernel_rfl) ?_) | (refine build_at rfl 57 _ rfl rowsC (by kernel_rfl) ?_))
  refine bodyPost_ret (results_cell_row rfl _ _ w.heap.size 57 rowsC _ _ rfl (heap_alloc_new w _) Try.underlying57 rfl (by rw [rowsC_size]; exact HI.out)) rfl ⟨rfl, (Below.refl _ _).alloc (Nat.le_refl _) _⟩


set_option maxRecDepth 100000 in
set_option maxHeartbeats 1000000 in
theorem begins_any (w : World) :
    Calls Try.prog 28 #[] w fun e w' => e = .returned beginsV ∧ Below w.heap.size w w' := by
  go_enter Try.func28, Try.ntmps28
  go_wp2_with fail
  exact bodyPost_ret (v := beginsV) (by simp [results, Try.results28, go_sem, beginsV, u32s, beginsL]) rfl ⟨rfl, (Below.refl _ _).alloc (Nat.le_refl _) _⟩

def quartersC : Array Value := (quartersL.flatten.map natV).toArray
set_option maxRecDepth 100000 in
set_option maxHeartbeats 1000000 in
theorem quarters_any (w : World) :
    Calls Try.prog 35 #[] w fun e w' => e = .returned (.agg quartersC) ∧ Below w.heap.size w w' := by
  have hs : quartersC.size = 32 := by kernel_rfl
  have h1 : quartersC.all (·.oneCell') = true := by kernel_rfl
  obtain ⟨hz, hi⟩ := zero_of_info (show (Try.prog.info? 63).map (fun i => (i.zero, i.size)) = some (some (.agg (Array.replicate 32 (.int .i64 0))), 32) by kernel_rfl)
  obtain ⟨Z, hZ⟩ : ∃ Z : Array Value, Z = Array.replicate 32 (.int .i64 0) := ⟨_, rfl⟩
  have hZs : Z.size = 32 := by rw [hZ]; simp
  rw [← hZ] at hz
  clear hZ
  have hst := run_storeCells_new (P := Try.prog) w 63 Z quartersC (by rw [hs]; exact hi) (by rw [hZs, hs]) h1
  have HI := Lib.hid hi
  have HS := Lib.hid hs
  clear hZs hi hs h1
  go_enter Try.func35, Try.ntmps35
  go_wp2_with (refine build_at rfl 63 _ rfl quartersC (by kernel_rfl) ?_)
  exact bodyPost_ret (results_cell_row rfl _ _ w.heap.size 63 quartersC _ _ rfl (heap_alloc_new w _) Try.underlying63 rfl (by rw [HS.out]; exact HI.out)) rfl ⟨rfl, (Below.refl _ _).alloc (Nat.le_refl _) _⟩

theorem refBegins_lit (w : World) :
    Calls Try.prog 26 #[] w fun e w' => e = .returned (.agg #[.int .u32 1779033703, .int .u32 3144134277, .int .u32 1013904242, .int .u32 2773480762, .int .u32 1359893119, .int .u32 2600822924, .int .u32 528734635, .int .u32 1541459225]) ∧ Below w.heap.size w w' := refBegins_any w
theorem begins_lit (w : World) :
    Calls Try.prog 28 #[] w fun e w' => e = .returned (.agg #[.int .u32 1779033703, .int .u32 3144134277, .int .u32 1013904242, .int .u32 2773480762, .int .u32 1359893119, .int .u32 2600822924, .int .u32 528734635, .int .u32 1541459225]) ∧ Below w.heap.size w w' := begins_any w
end Go.Proofs.Ytnpngkbcfkolnaa
