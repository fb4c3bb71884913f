/- Slices whose cells are known, of whatever element size, nil or not. -/
import Derived.Test.YtiminahobifomaaDoorTexts
import Derived.WalkSpells
import Derived.WalkLawsBesides
import Derived.Handy
import Derived.Lib.Hide
import Derived.Laws.OwnMore
import Derived.Deep.Slices
import Derived.Deep.Fields
namespace Go.Proofs.YtiminahobifomaaDoor
open Go.ChangeShapes Go.WideShapes Go.ChangeAt Go.RowKit Go.Joins
open Go.Deep (open_slice oneCellFields hone_of)
set_option linter.unusedVariables false
set_option linter.unusedSimpArgs false

/-- The slice value v has n elements of 'size' cells each; its cells hold xs. -/
def RowIs (w : World) (v : Value) (n size : Nat) (xs : List Value) : Prop :=
  xs.length = n * size ∧ ∃ A c, v = .slice A n c ∧ (0 < n → ∃ b o, A = some ⟨b, o, none⟩ ∧ b < w.heap.size ∧ ∀ j u, xs[j]? = some u → w.cell? ⟨b, o + j, none⟩ = some u)

theorem RowIs.nil (w : World) (size c : Nat) (A : Option Addr) : RowIs w (.slice A 0 c) 0 size [] := ⟨by simp, A, c, rfl, fun h => absurd h (by omega)⟩
theorem RowIs.below {w w' : World} {v : Value} {n size : Nat} {xs : List Value} (h : RowIs w v n size xs) (hb : Below w.heap.size w w') : RowIs w' v n size xs := by
  obtain ⟨h1, A, c, h2, h3⟩ := h
  refine ⟨h1, A, c, h2, fun hn => ?_⟩
  obtain ⟨b, o, e, hlt, hc⟩ := h3 hn
  exact ⟨b, o, e, Nat.lt_of_lt_of_le hlt hb.size, fun j u hu => by rw [hb.cell (p := ⟨b, o + j, none⟩) hlt]; exact hc j u hu⟩
theorem RowIs.of_own {w : World} {base size n : Nat} {e : TypeId} {v : Value} {xs : List Value} (h : w.ownsRow base e size v n xs) : RowIs w v n size xs := by
  refine ⟨h.1, ?_⟩
  rcases h.2 with ⟨rfl, rfl⟩ | ⟨g, cap, cur, rfl, hbase, hheap, hn, hmax, hsz, htake⟩
  · exact ⟨none, 0, rfl, fun hn => absurd hn (by omega)⟩
  · refine ⟨_, _, rfl, fun hn => ⟨g, 0, rfl, (Array.getElem?_eq_some_iff.1 hheap).1, fun j u hu => ?_⟩⟩
    have hj : j < n * size := by rw [← h.1]; exact (List.getElem?_eq_some_iff.1 hu).1
    have := h.cellAt j hj
    rw [Nat.zero_add, this]; exact hu
/-- One element's cells. -/
theorem RowIs.at_ {w : World} {v : Value} {n size k : Nat} {xs : List Value} (h : RowIs w v n size xs) (hk : k < n) :
    ∃ b o c, v = .slice (some ⟨b, o, none⟩) n c ∧ b < w.heap.size ∧ ∀ j, j < size → ∃ u, xs[k * size + j]? = some u ∧ w.cell? ⟨b, o + (k * size + j), none⟩ = some u := by
  obtain ⟨h1, A, c, rfl, h3⟩ := h
  obtain ⟨b, o, rfl, hlt, hc⟩ := h3 (by omega)
  refine ⟨b, o, c, rfl, hlt, fun j hj => ?_⟩
  have hl : k * size + j < xs.length := by
    rw [h1]
    have : (k + 1) * size ≤ n * size := Nat.mul_le_mul_right size hk
    rw [Nat.add_mul, Nat.one_mul] at this; omega
  exact ⟨xs[k * size + j], List.getElem?_eq_getElem hl, hc _ _ (List.getElem?_eq_getElem hl)⟩

theorem append_below {w wr w1 : World} {o : Obj} {e : TypeId} {size n : Nat} {v : Value} {xs : List Value} (hwr : Below w.heap.size w wr) (hown : wr.ownsRow w.heap.size e size v n xs) (hgrow : (wr.alloc o).grownBy w1 v.ownBlock) : Below w.heap.size w w1 :=
  (hwr.alloc hwr.size o).grown hgrow (by have := hwr.size; simp; omega) (fun k hk => (hown.lt k hk).1)
theorem append_below_drew {w wr w1 : World} {o : Obj} {e : TypeId} {size n : Nat} {v : Value} {xs : List Value} (hwr : Below w.heap.size w wr) (hown : wr.ownsRow w.heap.size e size v n xs) (hgrow : (wr.alloc o).drew.grownBy w1 v.ownBlock) : Below w.heap.size w w1 :=
  ((hwr.alloc hwr.size o).trans (show Below w.heap.size _ (wr.alloc o).drew from ⟨rfl, rfl, rfl, Nat.le_refl _, fun _ _ => rfl⟩)).grown hgrow (by have := hwr.size; show w.heap.size ≤ (wr.alloc o).heap.size; simp; omega) (fun k hk => (hown.lt k hk).1)

theorem below_celllt {W W' : World} {b j : Nat} {v : Value} (hc : W.cell? ⟨b, j, none⟩ = some v) (hs : b < W.heap.size) (h : Below W.heap.size W W') : W'.cell? ⟨b, j, none⟩ = some v := by
  rw [h.cell (p := ⟨b, j, none⟩) hs]; exact hc

/-- A slice literal's cells. -/
theorem lit_row (w : World) (cs : Array Value) (T : TypeId) (n size c : Nat) (h : cs.size = n * size) : RowIs (w.alloc (.cells cs T)) (.slice (some ⟨w.heap.size, 0, none⟩) n c) n size cs.toList := by
  refine ⟨by simpa using h, _, _, rfl, fun _ => ⟨_, _, rfl, by simp, fun j u hj => ?_⟩⟩
  rw [Nat.zero_add, cell_of_row _ _ _ cs T (0, 0) (Array.getElem?_push_size)]
  simpa using hj

/-- Lists of threes, cell by cell. -/
abbrev T3 := Int × Int × Int
def cells3 (s : T3) : List Value := [.int .i64 s.1, .int .i64 s.2.1, .int .i64 s.2.2]
def rows3 (l : List T3) : List Value := l.flatMap cells3
theorem rows3_length (l : List T3) : (rows3 l).length = l.length * 3 := by
  induction l with
  | nil => rfl
  | cons a l ih => simp only [rows3, List.flatMap_cons, List.length_append, List.length_cons] at *; rw [ih]; simp [cells3]; omega
theorem rows3_get (l : List T3) : ∀ (k : Nat) (s : T3), l[k]? = some s → (rows3 l)[k * 3]? = some (.int .i64 s.1) ∧ (rows3 l)[k * 3 + 1]? = some (.int .i64 s.2.1) ∧ (rows3 l)[k * 3 + 2]? = some (.int .i64 s.2.2) := by
  induction l with
  | nil => intro k s h; simp at h
  | cons a l ih =>
    intro k s h
    cases k with
    | zero => simp at h; subst h; simp [rows3, cells3]
    | succ k =>
      have := ih k s (by simpa using h)
      have e : ∀ j, (rows3 (a :: l))[(k + 1) * 3 + j]? = (rows3 l)[k * 3 + j]? := fun j => by
        have : (k + 1) * 3 + j = k * 3 + j + 3 := by omega
        rw [this]; simp [rows3, cells3]
      refine ⟨?_, ?_, ?_⟩
      · have := e 0; simp only [Nat.add_zero] at this; rw [this]; exact (ih k s (by simpa using h)).1
      · rw [e 1]; exact (ih k s (by simpa using h)).2.1
      · rw [e 2]; exact (ih k s (by simpa using h)).2.2
theorem rows3_snoc (l : List T3) (s : T3) : rows3 (l ++ [s]) = rows3 l ++ cells3 s := by simp [rows3]

/-- A slice value of structs of three ints. -/
def ThreesIn (w : World) (v : Value) (l : List T3) : Prop := RowIs w v l.length 3 (rows3 l)
theorem ThreesIn.at_ {w : World} {v : Value} {l : List T3} (h : ThreesIn w v l) {k : Nat} (hk : k < l.length) :
    ∃ b o c, v = .slice (some ⟨b, o, none⟩) l.length c ∧ ∃ s, l[k]? = some s ∧ w.cell? ⟨b, o + k * 3, none⟩ = some (.int .i64 s.1) ∧ w.cell? ⟨b, o + k * 3 + 1, none⟩ = some (.int .i64 s.2.1) ∧ w.cell? ⟨b, o + k * 3 + 2, none⟩ = some (.int .i64 s.2.2) := by
  obtain ⟨b, o, c, rfl, hlt, hc⟩ := RowIs.at_ h hk
  obtain ⟨e1, e2, e3⟩ := rows3_get l k l[k] (List.getElem?_eq_getElem hk)
  refine ⟨b, o, c, rfl, l[k], List.getElem?_eq_getElem hk, ?_, ?_, ?_⟩
  · obtain ⟨u, h1, h2⟩ := hc 0 (by omega)
    rw [Nat.add_zero, e1] at h1; rw [Nat.add_zero] at h2; rw [h2, Option.some.inj h1]
  · obtain ⟨u, h1, h2⟩ := hc 1 (by omega)
    rw [e2] at h1; rw [Nat.add_assoc, h2, Option.some.inj h1]
  · obtain ⟨u, h1, h2⟩ := hc 2 (by omega)
    rw [e3] at h1; rw [Nat.add_assoc, h2, Option.some.inj h1]
end Go.Proofs.YtiminahobifomaaDoor
