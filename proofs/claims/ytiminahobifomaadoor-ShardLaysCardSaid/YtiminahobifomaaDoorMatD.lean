/- Matrices copied and compared; walked. -/
import Derived.Test.YtiminahobifomaaDoorMatC
namespace Go.Proofs.YtiminahobifomaaDoor
open Go.ChangeShapes Go.WideShapes Go.ChangeAt Go.RowKit Go.Joins
set_option linter.unusedVariables false
set_option linter.unusedSimpArgs false

/-- Three cells of a block, that may be written. -/
structure Three (w : World) (B : Nat) (a b c : Value) : Prop where
  c0 : w.cell? ⟨B, 0, none⟩ = some a
  c1 : w.cell? ⟨B, 1, none⟩ = some b
  c2 : w.cell? ⟨B, 2, none⟩ = some c
  f0 : w.frozen? ⟨B, 0, none⟩ = false
  f1 : w.frozen? ⟨B, 1, none⟩ = false
  f2 : w.frozen? ⟨B, 2, none⟩ = false
theorem Three.new (w : World) (a b c : Value) (T : TypeId) : Three (w.alloc (.cells #[a, b, c] T)) w.heap.size a b c :=
  ⟨by simp [go_sem], by simp [go_sem], by simp [go_sem], by simp [go_sem], by simp [go_sem], by simp [go_sem]⟩
theorem Three.below {w w' : World} {B : Nat} {a b c : Value} (h : Three w B a b c) (hb : Below w.heap.size w w') : Three w' B a b c := by
  have hl := cell_block h.c0
  have k := Kept.of_below (p := fun _ => False) hb
  exact ⟨by rw [k.cell (d := ⟨B, 0, none⟩) hl id]; exact h.c0, by rw [k.cell (d := ⟨B, 1, none⟩) hl id]; exact h.c1, by rw [k.cell (d := ⟨B, 2, none⟩) hl id]; exact h.c2,
    by rw [k.frozen (d := ⟨B, 0, none⟩) hl id]; exact h.f0, by rw [k.frozen (d := ⟨B, 1, none⟩) hl id]; exact h.f1, by rw [k.frozen (d := ⟨B, 2, none⟩) hl id]; exact h.f2⟩
theorem Three.alloc {w : World} {B : Nat} {a b c : Value} (h : Three w B a b c) (o : Obj) : Three (w.alloc o) B a b c := h.below ((Below.refl _ _).alloc (Nat.le_refl _) o)

theorem own_kept {p : Nat → Prop} {w w' : World} {B k n : Nat} {e : TypeId} {v : Value} {xs : List Value} (h : w.ownsRow B e k v n xs) (hk : Kept p w w') (hp : ∀ g, B ≤ g → ¬ p g) : w'.ownsRow B e k v n xs := by
  refine ⟨h.1, ?_⟩
  rcases h.2 with h2 | ⟨g, cap, cur, h1, h2, h3, h4⟩
  · exact Or.inl h2
  · refine Or.inr ⟨g, cap, cur, h1, h2, ?_, h4⟩
    rw [hk.block g (Array.getElem?_eq_some_iff.1 h3).1 (hp g h2)]; exact h3
theorem own_base {w : World} {B B' k n : Nat} {e : TypeId} {v : Value} {xs : List Value} (h : w.ownsRow B e k v n xs) (hB : B' ≤ B) : w.ownsRow B' e k v n xs := by
  refine ⟨h.1, ?_⟩
  rcases h.2 with h2 | ⟨g, cap, cur, h1, h2, h3⟩
  · exact Or.inl h2
  · exact Or.inr ⟨g, cap, cur, h1, by omega, h3⟩
theorem own_cell {w : World} {B k n : Nat} {e : TypeId} {v u : Value} {xs : List Value} (h : w.ownsRow B e k v n xs) {d : Addr} (hd : d.block < B) : (w.setCell d u).ownsRow B e k v n xs :=
  own_kept (p := fun j => j = d.block) h ((Kept.refl (fun j => j = d.block) w).setCell (d := d) (fun _ => rfl) u) (fun g hg e => by omega)

theorem cum2 {W a b : World} (h : Below W.heap.size W a) (hb : Below a.heap.size a b) : Below W.heap.size W b := h.trans (hb.mono h.size)

end Go.Proofs.YtiminahobifomaaDoor
