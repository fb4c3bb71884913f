/- What a call leaves as it was: all blocks that were there but some. Blocks of cells that are known and may be written. -/
import Derived.Test.YtiminahobifomaaDoorClose
import Derived.WalkSpells
import Derived.WalkLawsBesides
import Derived.Handy
import Derived.Lib.Hide
namespace Go.Proofs.YtiminahobifomaaDoor
open Go.ChangeShapes Go.WideShapes Go.ChangeAt Go.RowKit Go.Joins
set_option linter.unusedVariables false
set_option linter.unusedSimpArgs false

/-- All that was there stands, but for blocks of which p tells. -/
structure Kept (p : Nat → Prop) (w w' : World) : Prop where
  os : w'.os = w.os
  tape : w'.tape = w.tape
  output : w'.output = w.output
  size : w.heap.size ≤ w'.heap.size
  block : ∀ k, k < w.heap.size → ¬ p k → w'.heap[k]? = w.heap[k]?

theorem Kept.refl (p : Nat → Prop) (w : World) : Kept p w w := ⟨rfl, rfl, rfl, Nat.le_refl _, fun _ _ _ => rfl⟩
theorem Kept.trans {p : Nat → Prop} {a b c : World} (h : Kept p a b) (k : Kept p b c) : Kept p a c :=
  ⟨k.os.trans h.os, k.tape.trans h.tape, k.output.trans h.output, Nat.le_trans h.size k.size, fun i hi hp => (k.block i (Nat.lt_of_lt_of_le hi h.size) hp).trans (h.block i hi hp)⟩
theorem Kept.mono {p q : Nat → Prop} {a b : World} (h : Kept p a b) (hpq : ∀ k, k < a.heap.size → p k → q k) : Kept q a b :=
  ⟨h.os, h.tape, h.output, h.size, fun k hk hq => h.block k hk fun hp => hq (hpq k hk hp)⟩
theorem Kept.of_below {p : Nat → Prop} {a b : World} (h : Below a.heap.size a b) : Kept p a b :=
  ⟨h.os, h.tape, h.output, h.size, fun k hk _ => h.block k hk⟩
theorem Kept.below {p : Nat → Prop} {a b : World} {B : Nat} (h : Kept p a b) (hB : B ≤ a.heap.size) (hp : ∀ k, k < B → ¬ p k) : Below B a b :=
  ⟨h.os, h.tape, h.output, h.size, fun k hk => h.block k (Nat.lt_of_lt_of_le hk hB) (hp k hk)⟩
/-- Of blocks that were not there at first nothing is said. -/
theorem Kept.trans_new {p q : Nat → Prop} {a b c : World} (h : Kept p a b) (k : Kept q b c) (hq : ∀ j, j < a.heap.size → q j → p j) : Kept p a c :=
  ⟨k.os.trans h.os, k.tape.trans h.tape, k.output.trans h.output, Nat.le_trans h.size k.size, fun i hi hp => (k.block i (Nat.lt_of_lt_of_le hi h.size) (fun hqi => hp (hq i hi hqi))).trans (h.block i hi hp)⟩
theorem Kept.drew {p : Nat → Prop} {a w : World} (h : Kept p a w) : Kept p a w.drew := ⟨h.os, h.tape, h.output, h.size, h.block⟩
theorem Kept.drewN {p : Nat → Prop} {a w : World} (h : Kept p a w) (n : Nat) : Kept p a (w.drewN n) := ⟨h.os, h.tape, h.output, h.size, h.block⟩
theorem Kept.alloc {p : Nat → Prop} {a w : World} (h : Kept p a w) (o : Obj) : Kept p a (w.alloc o) :=
  h.trans (Kept.of_below ((Below.refl _ _).alloc (Nat.le_refl _) o))
theorem Kept.setCell {p : Nat → Prop} {a w : World} (h : Kept p a w) {d : Addr} (hd : d.block < a.heap.size → p d.block) (u : Value) : Kept p a (w.setCell d u) := by
  refine ⟨h.os, h.tape, h.output, Nat.le_trans h.size (Nat.le_of_eq (World.size_setCell _ _ _).symm), fun k hk hp => ?_⟩
  rw [Below.heap_setCell _ _ _ _ (fun e => hp (by rw [e]; exact hd (by rw [← e]; exact hk)))]
  exact h.block k hk hp
theorem Kept.cell {p : Nat → Prop} {a w : World} (h : Kept p a w) {d : Addr} (hd : d.block < a.heap.size) (hp : ¬ p d.block) : w.cell? d = a.cell? d := World.cell?_of_block (w := a) (h.block d.block hd hp)
theorem Kept.frozen {p : Nat → Prop} {a w : World} (h : Kept p a w) {d : Addr} (hd : d.block < a.heap.size) (hp : ¬ p d.block) : w.frozen? d = a.frozen? d := World.frozen?_of_block (w := a) (h.block d.block hd hp)
theorem Kept.cell_eq {p : Nat → Prop} {a w : World} {b o : Nat} {v : Value} (h : Kept p a w) (hc : a.cell? ⟨b, o, none⟩ = some v) (hp : ¬ p b) : w.cell? ⟨b, o, none⟩ = some v := by
  rw [h.cell (d := ⟨b, o, none⟩) (cell_block hc) hp]; exact hc

/-- Cells from a place of a block on, that may be written. -/
def CellsAt (w : World) (b o : Nat) (cs : List Value) : Prop := b < w.heap.size ∧ ∀ i, i < cs.length → w.cell? ⟨b, o + i, none⟩ = some (cs.getD i default) ∧ w.frozen? ⟨b, o + i, none⟩ = false
theorem CellsAt.cell {w : World} {b o : Nat} {cs : List Value} (h : CellsAt w b o cs) {i : Nat} (hi : i < cs.length) : w.cell? ⟨b, o + i, none⟩ = some cs[i] := by
  rw [(h.2 i hi).1, ← List.getElem_eq_getD (h := hi)]
theorem CellsAt.free {w : World} {b o : Nat} {cs : List Value} (h : CellsAt w b o cs) {i : Nat} (hi : i < cs.length) : w.frozen? ⟨b, o + i, none⟩ = false := (h.2 i hi).2
theorem CellsAt.drew {w : World} {b o : Nat} {cs : List Value} (h : CellsAt w b o cs) : CellsAt w.drew b o cs := h
theorem CellsAt.drewN {w : World} {b o : Nat} {cs : List Value} (h : CellsAt w b o cs) (n : Nat) : CellsAt (w.drewN n) b o cs := h
theorem CellsAt.kept {p : Nat → Prop} {w w' : World} {b o : Nat} {cs : List Value} (h : CellsAt w b o cs) (hk : Kept p w w') (hp : ¬ p b) : CellsAt w' b o cs :=
  ⟨Nat.lt_of_lt_of_le h.1 hk.size, fun i hi => ⟨by rw [hk.cell (d := ⟨b, o + i, none⟩) h.1 hp]; exact (h.2 i hi).1, by rw [hk.frozen (d := ⟨b, o + i, none⟩) h.1 hp]; exact (h.2 i hi).2⟩⟩
theorem CellsAt.below {w w' : World} {b o : Nat} {cs : List Value} (h : CellsAt w b o cs) (hk : Below w.heap.size w w') : CellsAt w' b o cs :=
  h.kept (p := fun _ => False) (Kept.of_below hk) id
theorem CellsAt.alloc {w : World} {b o : Nat} {cs : List Value} (h : CellsAt w b o cs) (x : Obj) : CellsAt (w.alloc x) b o cs := h.below ((Below.refl _ _).alloc (Nat.le_refl _) x)
/-- A store into one of them. -/
theorem CellsAt.set {w : World} {b o : Nat} {cs : List Value} (h : CellsAt w b o cs) {k : Nat} (hk : k < cs.length) (v : Value) : CellsAt (w.setCell ⟨b, o + k, none⟩ v) b o (cs.set k v) := by
  refine ⟨by rw [World.size_setCell]; exact h.1, fun i hi => ?_⟩
  rw [List.length_set] at hi
  obtain ⟨h1, h2⟩ := h.2 i hi
  by_cases e : k = i
  · subst e
    have hg : (cs.set k v).getD k default = v := by simp [List.getD, hi]
    rw [hg]
    exact ⟨World.cell?_setCell_same' _ _ _ (by rw [h1]; rfl), by rw [World.frozen?_setCell]; exact h2⟩
  · have hg : (cs.set k v).getD i default = cs.getD i default := by simp [List.getD, List.getElem?_set, e]
    rw [hg]
    exact ⟨by rw [World.cell?_setCell_other _ _ _ _ (by simp [e])]; exact h1, by rw [World.frozen?_setCell]; exact h2⟩
/-- A store elsewhere in its block or in another one. -/
theorem CellsAt.set_far {w : World} {b o : Nat} {cs : List Value} (h : CellsAt w b o cs) {d : Addr} (hd : d.block ≠ b ∨ d.off < o ∨ o + cs.length ≤ d.off) (v : Value) : CellsAt (w.setCell d v) b o cs := by
  refine ⟨by rw [World.size_setCell]; exact h.1, fun i hi => ?_⟩
  obtain ⟨h1, h2⟩ := h.2 i hi
  refine ⟨?_, by rw [World.frozen?_setCell]; exact h2⟩
  rw [World.cell?_setCell_other _ _ _ _ (fun e => ?_)]
  · exact h1
  · subst e
    rcases hd with hd | hd | hd
    · exact hd rfl
    · simp at hd; omega
    · simp at hd; omega
/-- A block that was just laid. -/
theorem CellsAt.new (w : World) (cs : Array Value) (t : TypeId) : CellsAt (w.alloc (.cells cs t)) w.heap.size 0 cs.toList := by
  refine ⟨by simp, fun i hi => ?_⟩
  rw [Array.length_toList] at hi
  rw [Nat.zero_add]
  refine ⟨?_, by simp [go_sem]⟩
  rw [cell_of_row _ _ _ cs t (0, 0) Array.getElem?_push_size]
  simp [List.getD, hi]
theorem CellsAt.part {w : World} {b o : Nat} {cs : List Value} (h : CellsAt w b o cs) (k n : Nat) (hk : k + n ≤ cs.length) : CellsAt w b (o + k) ((cs.drop k).take n) := by
  refine ⟨h.1, fun i hi => ?_⟩
  rw [List.length_take, List.length_drop] at hi
  obtain ⟨h1, h2⟩ := h.2 (k + i) (by omega)
  rw [← Nat.add_assoc] at h1 h2
  refine ⟨?_, h2⟩
  rw [h1]
  simp [List.getD, List.getElem?_take, show i < n by omega]
end Go.Proofs.YtiminahobifomaaDoor
