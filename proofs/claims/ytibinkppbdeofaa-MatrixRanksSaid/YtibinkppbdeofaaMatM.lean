/- Marks among a frame's deferred calls; what a range over rows keeps. -/
import Derived.Test.YtibinkppbdeofaaMatH
import Derived.Test.YtibinkppbdeofaaMatK
namespace Go.Proofs.Ytibinkppbdeofaa
open Go.ChangeShapes Go.WideShapes Go.ChangeAt Go.RowKit Go.Joins Go.Shelf
set_option linter.unusedVariables false
set_option linter.unusedSimpArgs false

/-- The deferred calls are marks of loops that are over, each block open, from b on. -/
def Marks (b : Nat) (dl : List Deferred) (W : World) : Prop := ∃ Ds : List Nat, dl = Ds.map (fun D => { target := .collected D, args := #[] }) ∧ Ds.Nodup ∧ ∀ D ∈ Ds, b ≤ D ∧ W.heap[D]? = some (.deferred (some []))
theorem Marks.nil (b : Nat) (W : World) : Marks b [] W := ⟨[], rfl, List.nodup_nil, fun _ h => by cases h⟩
theorem Marks.kept {b : Nat} {dl : List Deferred} {W W' : World} {p : Nat → Prop} (h : Marks b dl W) (k : Kept p W W') (hp : ∀ D, b ≤ D → ¬ p D) : Marks b dl W' := by
  obtain ⟨Ds, e, hn, h⟩ := h
  refine ⟨Ds, e, hn, fun D hD => ⟨(h D hD).1, ?_⟩⟩
  rw [k.block D (Array.getElem?_eq_some_iff.1 (h D hD).2).1 (hp D (h D hD).1)]
  exact (h D hD).2
/-- One loop more. The blocks of the elder marks lie below c. -/
theorem Marks.cons {b : Nat} {dl : List Deferred} {W V : World} {D : Nat} (h : Marks b dl W) (hV : Marks b dl V) (hD : b ≤ D) (hDV : V.heap.size ≤ D) (hh : W.heap[D]? = some (.deferred (some []))) : Marks b ({ target := .collected D, args := #[] } :: dl) W := by
  obtain ⟨Ds, rfl, hn, h⟩ := h
  obtain ⟨Es, e, _, hE⟩ := hV
  have he : Es = Ds := by
    have hi : ∀ (l m : List Nat), l.map (fun D => ({ target := .collected D, args := #[] } : Deferred)) = m.map (fun D => { target := .collected D, args := #[] }) → m = l := by
      intro l
      induction l with
      | nil => intro m h; cases m with
        | nil => rfl
        | cons y m => simp at h
      | cons x l ih => intro m h; cases m with
        | nil => simp at h
        | cons y m =>
          simp only [List.map_cons, List.cons.injEq] at h
          have h1 : x = y := by have := h.1; simpa using this
          rw [ih m h.2, h1]
    exact hi Ds Es e
  subst he
  refine ⟨D :: Es, rfl, List.nodup_cons.2 ⟨fun hm => ?_, hn⟩, fun E hm => ?_⟩
  · have := (Array.getElem?_eq_some_iff.1 (hE D hm).2).1
    omega
  · rcases List.mem_cons.1 hm with rfl | hm
    · exact ⟨hD, hh⟩
    · exact h E hm
/-- A frame leaves with marks alone. -/
theorem leaves_marks {F : Fence} {n : Nat} {P : Program} {fn : Func} {tmps : Array Value} {R : Ending → World → Prop} {b : Nat} : ∀ (Ds : List Nat) (W : World), Ds.Nodup → (∀ D ∈ Ds, b ≤ D ∧ W.heap[D]? = some (.deferred (some []))) → (∀ W', Below b W W' → LeavesIn F n P fn tmps R [] .returning W') →
    LeavesInM F n P fn tmps R (Ds.map (fun D => { target := .collected D, args := #[] })) .returning W
  | [], W, _, _, hR => hR W (Below.refl _ _)
  | D :: Ds, W, hn, h, hR => by
    have hD := h D (by simp)
    have hl := (Array.getElem?_eq_some_iff.1 hD.2).1
    have hb : Below b W (W.putObj D (.deferred none)) := (Below.refl b W).grown (grownBy_putObj' W D _) (by omega) (fun k e => by cases e; exact hD.1)
    refine ⟨by simp, .inl ⟨D, W.putObj D (.deferred none), rfl, run_takeDeferred hD.2, ?_⟩⟩
    refine leaves_marks Ds _ (List.nodup_cons.1 hn).2 (fun E hE => ⟨(h E (List.mem_cons_of_mem _ hE)).1, ?_⟩) (fun W' h' => hR W' (hb.trans h'))
    have hne : E ≠ D := fun e => (List.nodup_cons.1 hn).1 (e ▸ hE)
    rw [World.putObj_heap_other hne]
    exact (h E (List.mem_cons_of_mem _ hE)).2
theorem Marks.leave {F : Fence} {n : Nat} {P : Program} {fn : Func} {tmps : Array Value} {R : Ending → World → Prop} {b : Nat} {dl : List Deferred} {W : World} (h : Marks b dl W) (hR : ∀ W', Below b W W' → ∃ v, (results fn tmps).run P W' = .ok v W' ∧ R (.returned v) W') : LeavesInM F n P fn tmps R dl .returning W := by
  obtain ⟨Ds, rfl, hn, h⟩ := h
  exact leaves_marks Ds W hn h hR

theorem ownFrom_kept {β : Type} {p : Nat → Prop} {w0 : World} {B : Nat} (hB : w0.heap.size ≤ B) : OwnFrom B (fun (_ : β) W => Kept p w0 W) := fun s W W' row h hg hr =>
  ⟨hg.os.trans h.os, hg.tape.trans h.tape, hg.output.trans h.output, Nat.le_trans h.size hg.size, fun k hk hp => by
    rw [hg.block k (Nat.lt_of_lt_of_le hk h.size) (fun e => by have := (hr k e.symm).1; omega)]; exact h.block k hk hp⟩
theorem keepsOthers_two {W W' : World} {X Y : Nat} (h : Kept (fun k => k = X ∨ k = Y) W W') {u v : Value} {i j : Nat} (hx : W.cell? ⟨X, i, none⟩ = some u) (hy : W.cell? ⟨Y, j, none⟩ = some v) : KeepsOthers W W' :=
  ⟨h.size, fun k ob hk ho => by
    have hkX : ¬ (k = X ∨ k = Y) := fun e => by
      rcases e with rfl | rfl
      · obtain ⟨ob', h1, h2⟩ := cells_of_cell hx
        rw [hk] at h1; cases h1; rw [h2] at ho; cases ho
      · obtain ⟨ob', h1, h2⟩ := cells_of_cell hy
        rw [hk] at h1; cases h1; rw [h2] at ho; cases ho
    rw [h.block k (Array.getElem?_eq_some_iff.1 hk).1 hkX]; exact hk⟩

/-- Rows cleared in the order in which they come. -/
def clrF (ca co c rank : Nat) {ra : Nat} (S : List Nat × List Nat) (pre : List (Fin ra)) : List Nat × List Nat := pre.foldl (fun S k => clrStep ca co c rank S k.1) S
theorem clrF_snoc (ca co c rank : Nat) {ra : Nat} (S : List Nat × List Nat) (pre : List (Fin ra)) (i : Fin ra) : clrF ca co c rank S (pre ++ [i]) = clrStep ca co c rank (clrF ca co c rank S pre) i.1 := by rw [clrF, List.foldl_append]; rfl
theorem clrF_all (ca co c rank ra : Nat) (S : List Nat × List Nat) : clrF ca co c rank S (finL ra ra (Nat.le_refl ra)) = clrAll ca co c rank ra S := by
  rw [clrAll, ← finL_val ra ra (Nat.le_refl ra), List.foldl_map]; rfl
theorem clrF_length (ca co c rank : Nat) {ra : Nat} (S : List Nat × List Nat) (pre : List (Fin ra)) : (clrF ca co c rank S pre).1.length = S.1.length ∧ (clrF ca co c rank S pre).2.length = S.2.length := by
  have h : ∀ (pre : List (Fin ra)) (S : List Nat × List Nat), (pre.foldl (fun S k => clrStep ca co c rank S k.1) S).1.length = S.1.length ∧ (pre.foldl (fun S k => clrStep ca co c rank S k.1) S).2.length = S.2.length := by
    intro pre
    induction pre with
    | nil => intro S; exact ⟨rfl, rfl⟩
    | cons i pre ih => intro S; rw [List.foldl_cons]; exact ⟨(ih _).1.trans (clrStep_length _ _ _ _ _ _).1, (ih _).2.trans (clrStep_length _ _ _ _ _ _).2⟩
  exact h pre S
end Go.Proofs.Ytibinkppbdeofaa
