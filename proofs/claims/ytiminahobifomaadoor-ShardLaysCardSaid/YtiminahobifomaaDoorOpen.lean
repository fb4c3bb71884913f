/- Structs and slices of structs that came in, opened, whatever they hold. -/
import Derived.Test.YtiminahobifomaaDoorRow
namespace Go.Proofs.YtiminahobifomaaDoor
open Go.ChangeShapes Go.WideShapes Go.ChangeAt Go.RowKit Go.Joins
open Go.Deep (open_slice open_slice1 oneCellFields hone_of)
set_option linter.unusedVariables false
set_option linter.unusedSimpArgs false

section
variable {H : Type} {enc : TypeId × Value → H} {P : Program} {w : World} {base : Nat} {spare : Nat → Bool} {held : Bool}

/-- One field of a struct's cells. -/
theorem open_field {t : TypeId} {fs : Array Field} {fuel : Nat} {cs : List Value} {x : DataW H × List MemPlace} (ht : P.underlying t = some (.struct fs)) (h : DataW.trod enc P w base spare held fuel t cs = some x) (hF : Fits P t x.1)
    (j : Nat) {f : Field} (hj : fs[j]? = some f) (cs' : List Value) {k : Nat} (hk : P.cellsOf f.type = k) (hc : (cs.drop f.offset).take k = cs') :
    ∃ n y, DataW.trod enc P w base spare held n f.type cs' = some y ∧ Fits P f.type y.1 := by
  obtain ⟨xs, n, _, rfl, _, hl, hg⟩ := DataW.trod_struct ht h
  have hlt : j < xs.length := by rw [hl]; exact (Array.getElem?_eq_some_iff.1 hj).1
  have h1 := hg j f hj
  rw [hk, hc, List.getElem?_eq_getElem hlt] at h1
  refine ⟨n, xs[j], h1, fits_field ht hF hj ?_⟩
  simp [hlt]

/-- A slice value, of whatever it is. -/
theorem open_any {t e : TypeId} {fuel : Nat} {v : Value} {x : DataW H × List MemPlace} (ht : P.underlying t = some (.slice e)) (h : DataW.trod enc P w base spare held fuel t [v] = some x) :
    ∃ p n c, v = .slice p n c ∧ n ≤ 9223372036854775807 := by
  rcases open_slice ht h with ⟨hcs, _⟩ | ⟨a, len, cap, m, n, D, Pl, hcs, hb, hl, hm, _⟩
  · simp only [List.cons.injEq, and_true] at hcs
    exact ⟨_, _, _, hcs, by omega⟩
  · simp only [List.cons.injEq, and_true] at hcs
    unfold maxLen at hm
    exact ⟨_, _, _, hcs, by omega⟩

theorem pick_list {α : Type} {m : Nat} {p : Nat → α → Prop} (d : α) (h : ∀ i, i < m → ∃ a, p i a) : ∃ l : List α, l.length = m ∧ ∀ i, i < m → p i (l.getD i d) := by
  refine ⟨(List.range m).map fun i => if hi : i < m then (h i hi).choose else d, by simp, fun i hi => ?_⟩
  have := (h i hi).choose_spec
  simpa [List.getD, hi] using this

/-- A slice value of truths that reads as these. -/
def BoolsIn (w : World) (v : Value) (bs : List Bool) : Prop :=
  ∃ p cap, v = .slice p bs.length cap ∧ SliceIn w p bs.length (fun i => .bool (bs.getD i false))
theorem BoolsIn.below {w w' : World} {v : Value} {bs : List Bool} (h : BoolsIn w v bs) (hb : Below w.heap.size w w') : BoolsIn w' v bs := by
  obtain ⟨p, cap, h1, h4⟩ := h
  exact ⟨p, cap, h1, h4.below hb⟩
theorem boolsIn_open {t e : TypeId} {fuel : Nat} {v : Value} {x : DataW H × List MemPlace} (ht : P.underlying t = some (.slice e)) (he : P.underlying e = some .bool) (hc : P.cellsOf e = 1)
    (h : DataW.trod enc P w base spare held fuel t [v] = some x) : ∃ bs, BoolsIn w v bs := by
  rcases open_slice1 ht hc h with ⟨hcs, _⟩ | ⟨a, len, cap, m, n, V, D, Pl, hcs, hb, hl, hm, hmm, hx, hi⟩
  · simp only [List.cons.injEq, and_true] at hcs
    exact ⟨[], _, _, hcs, by simp, fun i hi => by simp at hi⟩
  · simp only [List.cons.injEq, and_true] at hcs
    subst hcs
    have hlm : len ≤ m := by rw [hmm]; split <;> omega
    obtain ⟨bs, hbl, hbs⟩ := pick_list (m := len) false (p := fun i b => w.cell? (a.add i) = some (.bool b)) (fun i hi' => by
      obtain ⟨h1, h2⟩ := hi i (by omega)
      obtain ⟨b, hb, _⟩ := DataW.trod_bool he h2
      simp only [List.cons.injEq, and_true] at hb
      exact ⟨b, by rw [h1, hb]⟩)
    unfold maxLen at hm
    refine ⟨bs, some a, cap, by rw [hbl], ?_⟩
    rw [hbl]
    refine ⟨by omega, fun i hi' => ?_⟩
    have hci := hbs i hi'
    obtain ⟨b, off, spot⟩ := a
    have hspot : spot = none := by simpa [Addr.add] using World.cell?_spot (hbs 0 (by omega))
    subst hspot
    rw [Go.WideShapes.add_plain] at hci
    exact ⟨b, off, rfl, cell_block hci, hci⟩

/-- A slice of structs of three numbers. -/
theorem threesIn_open {t e : TypeId} {f0 f1 f2 : Field} {fuel : Nat} {v : Value} {x : DataW H × List MemPlace} (ht : P.underlying t = some (.slice e)) (he : P.underlying e = some (.struct #[f0, f1, f2])) (hC : P.cellsOf e = 3)
    (u0 : P.underlying f0.type = some (.int .i64)) (u1 : P.underlying f1.type = some (.int .i64)) (u2 : P.underlying f2.type = some (.int .i64))
    (o0 : f0.offset = 0) (o1 : f1.offset = 1) (o2 : f2.offset = 2) (c0 : P.cellsOf f0.type = 1) (c1 : P.cellsOf f1.type = 1) (c2 : P.cellsOf f2.type = 1)
    (h : DataW.trod enc P w base spare held fuel t [v] = some x) : ∃ l, ThreesIn w v l ∧ l.length ≤ 9223372036854775807 ∧ (∀ s ∈ l, (Lit.int .i64 s.1).wf = true ∧ (Lit.int .i64 s.2.1).wf = true ∧ (Lit.int .i64 s.2.2).wf = true) ∧ ∃ A c, v = .slice A l.length c ∧ l.length ≤ c := by
  rcases open_slice ht h with ⟨hcs, _⟩ | ⟨a, len, cap, m, n, D, Pl, hcs, hb, hl, hm, hmm, hx, hi⟩
  · simp only [List.cons.injEq, and_true] at hcs
    subst hcs
    exact ⟨[], RowIs.nil _ _ _ _, by simp, by simp, none, 0, rfl, by simp⟩
  · simp only [List.cons.injEq, and_true] at hcs
    subst hcs
    have hlm : len ≤ m := by rw [hmm]; split <;> omega
    rw [hC] at hi
    have hcell : ∀ i, i < len → ∃ s : T3, (w.cell? (a.add (i * 3)) = some (.int .i64 s.1) ∧ w.cell? (a.add (i * 3 + 1)) = some (.int .i64 s.2.1) ∧ w.cell? (a.add (i * 3 + 2)) = some (.int .i64 s.2.2)) ∧
        (Lit.int .i64 s.1).wf = true ∧ (Lit.int .i64 s.2.1).wf = true ∧ (Lit.int .i64 s.2.2).wf = true := by
      intro i hi'
      obtain ⟨cs', hc, ht'⟩ := hi i (by omega)
      obtain ⟨_, hcl, hat⟩ := World.cells?_some hc
      obtain ⟨ys, n', _, _, hlen, hyl, hf⟩ := DataW.trod_struct he ht'
      match cs', hcl with
      | [w0, w1, w2], _ =>
        have g0 := hf 0 f0 rfl
        have g1 := hf 1 f1 rfl
        have g2 := hf 2 f2 rfl
        rw [o0, c0] at g0; rw [o1, c1] at g1; rw [o2, c2] at g2
        have l0 : ys[0]? = some (ys[0]'(by rw [hyl]; simp)) := List.getElem?_eq_getElem _
        have l1 : ys[1]? = some (ys[1]'(by rw [hyl]; simp)) := List.getElem?_eq_getElem _
        have l2 : ys[2]? = some (ys[2]'(by rw [hyl]; simp)) := List.getElem?_eq_getElem _
        rw [l0] at g0; rw [l1] at g1; rw [l2] at g2
        obtain ⟨z0, e0, _, b0⟩ := DataW.trod_int u0 g0
        obtain ⟨z1, e1, _, b1⟩ := DataW.trod_int u1 g1
        obtain ⟨z2, e2, _, b2⟩ := DataW.trod_int u2 g2
        simp at e0 e1 e2
        subst e0 e1 e2
        have k0 := hat 0 (by omega); have k1 := hat 1 (by omega); have k2 := hat 2 (by omega)
        rw [Go.Deep.add_add] at k0 k1 k2
        exact ⟨(z0, z1, z2), ⟨by simpa using k0, by simpa using k1, by simpa using k2⟩, b0, b1, b2⟩
    obtain ⟨l, hll, hls⟩ := pick_list (m := len) ((0, 0, 0) : T3) hcell
    unfold maxLen at hm
    refine ⟨l, ⟨by rw [rows3_length], some a, cap, by rw [hll], fun hn => ?_⟩, by omega, ?_, some a, cap, by rw [hll], by omega⟩
    · obtain ⟨b, off, spot⟩ := a
      have hspot : spot = none := by simpa [Addr.add] using World.cell?_spot (hls 0 (by omega)).1.1
      subst hspot
      simp only [Go.WideShapes.add_plain] at hls
      refine ⟨b, off, rfl, cell_block (hls 0 (by omega)).1.1, fun j u hu => ?_⟩
      have hj : j < l.length * 3 := by rw [← rows3_length]; exact (List.getElem?_eq_some_iff.1 hu).1
      have hjl : j / 3 < l.length := by omega
      obtain ⟨q0, q1, q2⟩ := rows3_get l (j / 3) (l.getD (j / 3) (0, 0, 0)) (by simp [List.getD, hjl])
      obtain ⟨⟨r0, r1, r2⟩, _⟩ := hls (j / 3) (by omega)
      have hd : j = j / 3 * 3 + j % 3 := by omega
      have hm3 : j % 3 = 0 ∨ j % 3 = 1 ∨ j % 3 = 2 := by omega
      rcases hm3 with e | e | e <;> rw [e] at hd
      · rw [hd, Nat.add_zero] at hu ⊢; rw [q0] at hu; cases hu; exact r0
      · rw [hd] at hu ⊢; rw [q1] at hu; cases hu; exact r1
      · rw [hd] at hu ⊢; rw [q2] at hu; cases hu; exact r2
    · intro s hs
      obtain ⟨i, hi', rfl⟩ := List.getElem_of_mem hs
      have := (hls i (by omega)).2
      simpa [List.getD, hi'] using this
end
end Go.Proofs.YtiminahobifomaaDoor
