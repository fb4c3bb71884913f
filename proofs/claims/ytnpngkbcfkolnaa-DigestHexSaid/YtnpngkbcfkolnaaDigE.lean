/- The program's hash, walked: made, fed, asked. -/
import Derived.Test.YtnpngkbcfkolnaaDigC
import Derived.Test.YtnpngkbcfkolnaaDigW
import Derived.Test.YtnpngkbcfkolnaaShelf6
import Derived.Deep.RegionHeld3
namespace Go.Proofs.Ytnpngkbcfkolnaa
open Go.ChangeShapes Go.WideShapes Go.ChangeAt Go.RowKit Go.Joins
set_option linter.unusedVariables false
set_option linter.unusedSimpArgs false
attribute [local go_sem ↓] Go.wp_at_zero Go.wp_at_succ

def hashC (hs : List Int) (rest : ByteArray) (long : Nat) : List Value := u32s hs ++ [.string rest, .int .i64 (long : Int)]
/-- A hash that was fed a text. -/
def HashOf (W : World) (g : Nat) (T : ByteArray) : Prop := CellsAt W g 0 (hashC (midQ T (nb T.size)) (T.extract (64 * nb T.size) T.size) T.size)
theorem turned_lit (h0 h1 h2 h3 h4 h5 h6 h7 : Int) (s : ByteArray) (n : Nat) (last : Bool) (w : World) (hw : Words 8 [h0, h1, h2, h3, h4, h5, h6, h7]) (hs64 : s.size ≤ 64) (hn : n ≤ 1000000000) :
    Calls Try.prog 29 #[.agg #[.int .u32 h0, .int .u32 h1, .int .u32 h2, .int .u32 h3, .int .u32 h4, .int .u32 h5, .int .u32 h6, .int .u32 h7], .string s, .int .i64 (n : Int), .bool last] w fun e w' =>
      ∃ Z, blockQ [h0, h1, h2, h3, h4, h5, h6, h7] s n last = Z ∧ ∃ z0 z1 z2 z3 z4 z5 z6 z7 : Int, Z = [z0, z1, z2, z3, z4, z5, z6, z7] ∧ e = .returned (.agg #[.int .u32 z0, .int .u32 z1, .int .u32 z2, .int .u32 z3, .int .u32 z4, .int .u32 z5, .int .u32 z6, .int .u32 z7]) ∧ Below w.heap.size w w' := by
  obtain ⟨z0, z1, z2, z3, z4, z5, z6, z7, hz⟩ := list8 (blockQ_words [h0, h1, h2, h3, h4, h5, h6, h7] s n last).1
  refine (turned_any h0 h1 h2 h3 h4 h5 h6 h7 s n last w hw hs64 hn).mono fun e w' ⟨he, hb⟩ => ⟨_, rfl, z0, z1, z2, z3, z4, z5, z6, z7, hz, ?_, hb⟩
  rw [he, hz]
  rfl

/-- The cells of a hash, one by one. -/
structure HashCells (W : World) (g : Nat) (h0 h1 h2 h3 h4 h5 h6 h7 : Int) (rest : ByteArray) (long : Int) : Prop where
  c0 : W.cell? ⟨g, 0, none⟩ = some (.int .u32 h0)
  c1 : W.cell? ⟨g, 1, none⟩ = some (.int .u32 h1)
  c2 : W.cell? ⟨g, 2, none⟩ = some (.int .u32 h2)
  c3 : W.cell? ⟨g, 3, none⟩ = some (.int .u32 h3)
  c4 : W.cell? ⟨g, 4, none⟩ = some (.int .u32 h4)
  c5 : W.cell? ⟨g, 5, none⟩ = some (.int .u32 h5)
  c6 : W.cell? ⟨g, 6, none⟩ = some (.int .u32 h6)
  c7 : W.cell? ⟨g, 7, none⟩ = some (.int .u32 h7)
  c8 : W.cell? ⟨g, 8, none⟩ = some (.string rest)
  c9 : W.cell? ⟨g, 9, none⟩ = some (.int .i64 long)
  f0 : W.frozen? ⟨g, 0, none⟩ = false
  f1 : W.frozen? ⟨g, 1, none⟩ = false
  f2 : W.frozen? ⟨g, 2, none⟩ = false
  f3 : W.frozen? ⟨g, 3, none⟩ = false
  f4 : W.frozen? ⟨g, 4, none⟩ = false
  f5 : W.frozen? ⟨g, 5, none⟩ = false
  f6 : W.frozen? ⟨g, 6, none⟩ = false
  f7 : W.frozen? ⟨g, 7, none⟩ = false
  f8 : W.frozen? ⟨g, 8, none⟩ = false
  f9 : W.frozen? ⟨g, 9, none⟩ = false
theorem hash_cells {W : World} {g : Nat} {h0 h1 h2 h3 h4 h5 h6 h7 : Int} {rest : ByteArray} {long : Nat} (h : CellsAt W g 0 (hashC [h0, h1, h2, h3, h4, h5, h6, h7] rest long)) : HashCells W g h0 h1 h2 h3 h4 h5 h6 h7 rest (long : Int) := by
  have fz : ∀ j, j < 10 → W.frozen? ⟨g, j, none⟩ = false := fun j hj => by have := h.free (i := j) hj; rwa [Nat.zero_add] at this
  exact ⟨nats_at' h (i := 0) rfl, nats_at' h (i := 1) rfl, nats_at' h (i := 2) rfl, nats_at' h (i := 3) rfl, nats_at' h (i := 4) rfl, nats_at' h (i := 5) rfl, nats_at' h (i := 6) rfl, nats_at' h (i := 7) rfl, nats_at' h (i := 8) rfl, nats_at' h (i := 9) rfl,
    fz 0 (by omega), fz 1 (by omega), fz 2 (by omega), fz 3 (by omega), fz 4 (by omega), fz 5 (by omega), fz 6 (by omega), fz 7 (by omega), fz 8 (by omega), fz 9 (by omega)⟩

set_option maxRecDepth 100000 in
set_option maxHeartbeats 1000000 in
theorem new_any (w : World) :
    Calls Try.prog 14 #[] w fun e w' => ∃ g, e = .returned (.pointer (some ⟨g, 0, none⟩)) ∧ w.heap.size ≤ g ∧ HashOf w' g ByteArray.empty ∧ Below w.heap.size w w' := by
  go_enter Try.func14, Try.ntmps14
  go_wp2_with (first | (go_at_call 28; refine (begins_lit _).mono ?_; rintro e W1 ⟨rfl, hb1⟩))
  have hle := hb1.size
  have hc := CellsAt.new W1 #[.int .u32 1779033703, .int .u32 3144134277, .int .u32 1013904242, .int .u32 2773480762, .int .u32 1359893119, .int .u32 2600822924, .int .u32 528734635, .int .u32 1541459225, .string ⟨#[]⟩, .int .i64 0] 51
  have hb2 := hb1.alloc hb1.size (.cells #[.int .u32 1779033703, .int .u32 3144134277, .int .u32 1013904242, .int .u32 2773480762, .int .u32 1359893119, .int .u32 2600822924, .int .u32 528734635, .int .u32 1541459225, .string ⟨#[]⟩, .int .i64 0] 51)
  generalize W1.alloc (.cells #[.int .u32 1779033703, .int .u32 3144134277, .int .u32 1013904242, .int .u32 2773480762, .int .u32 1359893119, .int .u32 2600822924, .int .u32 528734635, .int .u32 1541459225, .string ⟨#[]⟩, .int .i64 0] 51) = W2 at *
  generalize W1.heap.size = g at *
  have c0 := nats_at' hc (i := 0) rfl
  have f0 := hc.free (i := 0) (by simp)
  rw [Nat.zero_add] at f0
  have HC := Lib.hid hc
  clear hc
  go_still_tail 9, (by kernel_rfl)
  change wpList _ _ _ _ _ (World.drew _)
  go_wp2_with fail
  go_ret
  exact ⟨g, rfl, hle, (HC.out.set (k := 0) (by simp) (.int .u32 (bits .xor .u32 1779033703 16842784))).drew, (hb2.setCell (p := ⟨g, 0, none⟩) hle _).drew⟩

set_option maxRecDepth 100000 in
set_option maxHeartbeats 400000 in
theorem clone_any (s : ByteArray) (w : World) (hs : s.size ≤ 1000000) :
    Calls Try.prog 30 #[.string s] w fun e w' => e = .returned (.string s) ∧ Below w.heap.size w w' := by
  go_enter Try.func30, Try.ntmps30
  go_wp2_with (first | (go_at_call 37; refine (sh_stringslite_Clone _ _ (by omega)).mono ?_; rintro e w1 ⟨rfl, hb1⟩))
  go_ret
  exact ⟨rfl, hb1⟩

set_option maxRecDepth 100000 in
set_option maxHeartbeats 400000 in
theorem len_any (g : Nat) (T : ByteArray) (w : World) (h : HashOf w g T) :
    Calls Try.prog 16 #[.pointer (some ⟨g, 0, none⟩)] w fun e w' => e = .returned (.int .i64 (T.size : Int)) ∧ w = w' := by
  obtain ⟨h0, h1, h2, h3, h4, h5, h6, h7, hh⟩ := list8 (midQ_words T (nb T.size)).1
  have hc := h
  rw [HashOf, hh] at hc
  have c9 := (hash_cells hc).c9
  clear hh hc h
  go_enter Try.func16, Try.ntmps16
  go_wp2_with fail
  go_ret
  exact ⟨rfl, rfl⟩
end Go.Proofs.Ytnpngkbcfkolnaa
