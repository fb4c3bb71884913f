/- Structs and slices of structs that came in, opened, whatever they hold. -/
import Derived.Test.YtdagnmhioellhaaPkA03
import Derived.Test.YtdagnmhioellhaaPkA19
import Derived.BigQuiet
import Derived.BigRegion
import Derived.Test.YtdagnmhioellhaaPkA05
namespace Go.Proofs.Ytdagnmhioellhaa
open Go.ChangeShapes Go.WideShapes Go.ChangeAt Go.RowKit Go.Joins
open Go.Deep (open_slice open_slice1 oneCellFields hone_of)
set_option linter.unusedVariables false
set_option linter.unusedSimpArgs false

section
variable {H : Type} {enc : TypeId × Value → H} {P : Program} {w : World} {base : Nat} {spare : Nat → Bool} {held : Bool}

/-- One field of a struct's cells. -/
theorem open_field {t : TypeId} {fs : Array Field} {fuel : Nat} {cs : List Value} {x : DataW H × List MemPlace} (ht : P.underlying t = some (.struct fs)) (h : DataW.trod enc P w base spare held fuel t cs = some x) (hF : Fits P t x.1)
    (j : Nat) {f : Field} (hj : fs[j]? = some f) (cs' : List Value) {k : Nat} (hk : P.cellsOf f.type = k) (hc : (cs.drop f.offset).take k = cs') :
    ∃ n y, DataW.trod enc P w base spare held n f.type cs' = some y ∧ Fits P f.type y.1 := by
  obtain ⟨xs, n, _, rfl, _, hl, hg⟩ := DataW.trod_struct ht h
  have hlt : j < xs.length := by rw [hl]; exact (Array.getElem?_eq_some_iff.1 hj).1
  have h1 := hg j f hj
  rw [hk, hc, List.getElem?_eq_getElem hlt] at h1
  refine ⟨n, xs[j], h1, fits_field ht hF hj ?_⟩
  simp [hlt]

/-- A slice value, of whatever it is. -/
theorem open_any {t e : TypeId} {fuel : Nat} {v : Value} {x : DataW H × List MemPlace} (ht : P.underlying t = some (.slice e)) (h : DataW.trod enc P w base spare held fuel t [v] = some x) :
    ∃ p n c, v = .slice p n c ∧ n ≤ 9223372036854775807 := by
  rcases open_slice ht h with ⟨hcs, _⟩ | ⟨a, len, cap, m, n, D, Pl, hcs, hb, hl, hm, _⟩
  · simp only [List.cons.injEq, and_true] at hcs
    exact ⟨_, _, _, hcs, by omega⟩
  · simp only [List.cons.injEq, and_true] at hcs
    unfold maxLen at hm
    exact ⟨_, _, _, hcs, by omega⟩

theorem pick_list {α : Type} {m : Nat} {p : Nat → α → Prop} (d : α) (h : ∀ i, i < m → ∃ a, p i a) : ∃ l : List α, l.length = m ∧ ∀ i, i < m → p i (l.getD i d) := by
  refine ⟨(List.range m).map fun i => if hi : i < m then (h i hi).choose else d, by simp, fun i hi => ?_⟩
  have := (h i hi).choose_spec
  simpa [List.getD, hi] using this

/-- A slice value of truths that reads as these. -/
def BoolsIn (w : World) (v : Value) (bs : List Bool) : Prop :=
  ∃ p cap, v = .slice p bs.length cap ∧ SliceIn w p bs.length (fun i => .bool (bs.getD i false))
theorem BoolsIn.below {w w' : World} {v : Value} {bs : List Bool} (h : BoolsIn w v bs) (hb : Below w.heap.size w w') : BoolsIn w' v bs := by
  obtain ⟨p, cap, h1, h4⟩ := h
  exact ⟨p, cap, h1, h4.below hb⟩
theorem boolsIn_open {t e : TypeId} {fuel : Nat} {v : Value} {x : DataW H × List MemPlace} (ht : P.underlying t = some (.slice e)) (he : P.underlying e = some .bool) (hc : P.cellsOf e = 1)
    (h : DataW.trod enc P w base spare held fuel t [v] = some x) : ∃ bs, BoolsIn w v bs := by
  rcases open_slice1 ht hc h with ⟨hcs, _⟩ | ⟨a, len, cap, m, n, V, D, Pl, hcs, hb, hl, hm, hmm, hx, hi⟩
  · simp only [List.cons.injEq, and_true] at hcs
    exact ⟨[], _, _, hcs, by simp, fun i hi => by simp at hi⟩
  · simp only [List.cons.injEq, and_true] at hcs
    subst hcs
    have hlm : len ≤ m := by rw [hmm]; split <;> omega
    obtain ⟨bs, hbl, hbs⟩ := pick_list (m := len) false (p := fun i b => w.cell? (a.add i) = some (.bool b)) (fun i hi' => by
      obtain ⟨h1, h2⟩ := hi i (by omega)
      obtain ⟨b, hb, _⟩ := DataW.trod_bool he h2
      simp only [List.cons.injEq, and_true] at hb
      exact ⟨b, by rw [h1, hb]⟩)
    unfold maxLen at hm
    refine ⟨bs, some a, cap, by rw [hbl], ?_⟩
    rw [hbl]
    refine ⟨by omega, fun i hi' => ?_⟩
    have hci := hbs i hi'
    obtain ⟨b, off, spot⟩ := a
    have hspot : spot = none := by simpa [Addr.add] using World.cell?_spot (hbs 0 (by omega))
    subst hspot
    rw [Go.WideShapes.add_plain] at hci
    exact ⟨b, off, rfl, cell_block hci, hci⟩

/-- A slice of structs of three numbers. -/
theorem threesIn_open {t e : TypeId} {f0 f1 f2 : Field} {fuel : Nat} {v : Value} {x : DataW H × List MemPlace} (ht : P.underlying t = some (.slice e)) (he : P.underlying e = some (.struct #[f0, f1, f2])) (hC : P.cellsOf e = 3)
    (u0 : P.underlying f0.type = some (.int .i64)) (u1 : P.underlying f1.type = some (.int .i64)) (u2 : P.underlying f2.type = some (.int .i64))
    (o0 : f0.offset = 0) (o1 : f1.offset = 1) (o2 : f2.offset = 2) (c0 : P.cellsOf f0.type = 1) (c1 : P.cellsOf f1.type = 1) (c2 : P.cellsOf f2.type = 1)
    (h : DataW.trod enc P w base spare held fuel t [v] = some x) : ∃ l, ThreesIn w v l ∧ l.length ≤ 9223372036854775807 ∧ (∀ s ∈ l, (Lit.int .i64 s.1).wf = true ∧ (Lit.int .i64 s.2.1).wf = true ∧ (Lit.int .i64 s.2.2).wf = true) ∧ ∃ A c, v = .slice A l.length c ∧ l.length ≤ c := by
  rcases open_slice ht h with ⟨hcs, _⟩ | ⟨a, len, cap, m, n, D, Pl, hcs, hb, hl, hm, hmm, hx, hi⟩
  · simp only [List.cons.injEq, and_true] at hcs
    subst hcs
    exact ⟨[], RowIs.nil _ _ _ _, by simp, by simp, none, 0, rfl, by simp⟩
  · simp only [List.cons.injEq, and_true] at hcs
    subst hcs
    have hlm : len ≤ m := by rw [hmm]; split <;> omega
    rw [hC] at hi
    have hcell : ∀ i, i < len → ∃ s : T3, (w.cell? (a.add (i * 3)) = some (.int .i64 s.1) ∧ w.cell? (a.add (i * 3 + 1)) = some (.int .i64 s.2.1) ∧ w.cell? (a.add (i * 3 + 2)) = some (.int .i64 s.2.2)) ∧
        (Lit.int .i64 s.1).wf = true ∧ (Lit.int .i64 s.2.1).wf = true ∧ (Lit.int .i64 s.2.2).wf = true := by
      intro i hi'
      obtain ⟨cs', hc, ht'⟩ := hi i (by omega)
      obtain ⟨_, hcl, hat⟩ := World.cells?_some hc
      obtain ⟨ys, n', _, _, hlen, hyl, hf⟩ := DataW.trod_struct he ht'
      match cs', hcl with
      | [w0, w1, w2], _ =>
        have g0 := hf 0 f0 rfl
        have g1 := hf 1 f1 rfl
        have g2 := hf 2 f2 rfl
        rw [o0, c0] at g0; rw [o1, c1] at g1; rw [o2, c2] at g2
        have l0 : ys[0]? = some (ys[0]'(by rw [hyl]; simp)) := List.getElem?_eq_getElem _
        have l1 : ys[1]? = some (ys[1]'(by rw [hyl]; simp)) := List.getElem?_eq_getElem _
        have l2 : ys[2]? = some (ys[2]'(by rw [hyl]; simp)) := List.getElem?_eq_getElem _
        rw [l0] at g0; rw [l1] at g1; rw [l2] at g2
        obtain ⟨z0, e0, _, b0⟩ := DataW.trod_int u0 g0
        obtain ⟨z1, e1, _, b1⟩ := DataW.trod_int u1 g1
        obtain ⟨z2, e2, _, b2⟩ := DataW.trod_int u2 g2
        simp at e0 e1 e2
        subst e0 e1 e2
        have k0 := hat 0 (by omega); have k1 := hat 1 (by omega); have k2 := hat 2 (by omega)
        rw [Go.Deep.add_add] at k0 k1 k2
        exact ⟨(z0, z1, z2), ⟨by simpa using k0, by simpa using k1, by simpa using k2⟩, b0, b1, b2⟩
    obtain ⟨l, hll, hls⟩ := pick_list (m := len) ((0, 0, 0) : T3) hcell
    unfold maxLen at hm
    refine ⟨l, ⟨by rw [rows3_length], some a, cap, by rw [hll], fun hn => ?_⟩, by omega, ?_, some a, cap, by rw [hll], by omega⟩
    · obtain ⟨b, off, spot⟩ := a
      have hspot : spot = none := by simpa [Addr.add] using World.cell?_spot (hls 0 (by omega)).1.1
      subst hspot
      simp only [Go.WideShapes.add_plain] at hls
      refine ⟨b, off, rfl, cell_block (hls 0 (by omega)).1.1, fun j u hu => ?_⟩
      have hj : j < l.length * 3 := by rw [← rows3_length]; exact (List.getElem?_eq_some_iff.1 hu).1
      have hjl : j / 3 < l.length := by omega
      obtain ⟨q0, q1, q2⟩ := rows3_get l (j / 3) (l.getD (j / 3) (0, 0, 0)) (by simp [List.getD, hjl])
      obtain ⟨⟨r0, r1, r2⟩, _⟩ := hls (j / 3) (by omega)
      have hd : j = j / 3 * 3 + j % 3 := by omega
      have hm3 : j % 3 = 0 ∨ j % 3 = 1 ∨ j % 3 = 2 := by omega
      rcases hm3 with e | e | e <;> rw [e] at hd
      · rw [hd, Nat.add_zero] at hu ⊢; rw [q0] at hu; cases hu; exact r0
      · rw [hd] at hu ⊢; rw [q1] at hu; cases hu; exact r1
      · rw [hd] at hu ⊢; rw [q2] at hu; cases hu; exact r2
    · intro s hs
      obtain ⟨i, hi', rfl⟩ := List.getElem_of_mem hs
      have := (hls i (by omega)).2
      simpa [List.getD, hi'] using this
end
end Go.Proofs.Ytdagnmhioellhaa

/- What comes in to many laws: shapes, texts and truths. -/

namespace Go.Proofs.Ytdagnmhioellhaa
open Go.ChangeShapes Go.WideShapes Go.ChangeAt Go.RowKit Go.Joins
set_option linter.unusedVariables false
set_option linter.unusedSimpArgs false

theorem cellsStr : Try.prog.cellsOf 9 = 1 := by kernel_rfl
theorem bytesStr : Try.prog.bytesOf 9 = 16 := by kernel_rfl
theorem cellsBool : Try.prog.cellsOf 4 = 1 := by kernel_rfl
theorem cellsInt : Try.prog.cellsOf 3 = 1 := by kernel_rfl
theorem cellsShape : Try.prog.cellsOf 29 = 3 := by kernel_rfl
theorem cellsAsk4 : Try.prog.cellsOf 26 = 3 := by kernel_rfl
theorem cellsShapes : Try.prog.cellsOf 22 = 1 := by kernel_rfl
theorem cellsStrs : Try.prog.cellsOf 23 = 1 := by kernel_rfl
theorem cellsBools : Try.prog.cellsOf 24 = 1 := by kernel_rfl

def i64Ok (z : Int) : Prop := -9223372036854775808 ≤ z ∧ z ≤ 9223372036854775807
theorem i64Ok_of {z : Int} (h : (Lit.int .i64 z).wf = true) : i64Ok z := by
  simpa [i64Ok, Lit.wf, IntKind.min, IntKind.max, IntKind.signed, IntKind.bits] using h

theorem ask4_open {H : Type} {enc : TypeId × Value → H} {W : World} {base fuel : Nat} {spare : Nat → Bool} {held : Bool} {c0 c1 c2 : Value} {x : DataW H × List MemPlace}
    (h : DataW.trod enc Try.prog W base spare held fuel 26 [c0, c1, c2] = some x) (hf : Fits Try.prog 26 x.1) :
    (∃ l, ThreesIn W c0 l ∧ l.length ≤ 9223372036854775807 ∧ ∀ s ∈ l, i64Ok s.1 ∧ i64Ok s.2.1 ∧ i64Ok s.2.2) ∧ (∃ ss, TextsIn W c1 ss) ∧ (∃ bs, BoolsIn W c2 bs) := by
  obtain ⟨n0, y0, h0, f0⟩ := open_field Try.underlying26 h hf 0 rfl [c0] cellsShapes rfl
  obtain ⟨n1, y1, h1, f1⟩ := open_field Try.underlying26 h hf 1 rfl [c1] cellsStrs rfl
  obtain ⟨n2, y2, h2, f2⟩ := open_field Try.underlying26 h hf 2 rfl [c2] cellsBools rfl
  obtain ⟨l, hl, hl2, hl3, _⟩ := threesIn_open Try.underlying22 Try.underlying29 cellsShape Try.underlying3 Try.underlying3 Try.underlying3 rfl rfl rfl cellsInt cellsInt cellsInt h0
  obtain ⟨ss, hS⟩ := textsIn_open Try.underlying23 Try.underlying9 cellsStr bytesStr h1 f1
  obtain ⟨bs, hB⟩ := boolsIn_open Try.underlying24 Try.underlying4 cellsBool h2
  exact ⟨⟨l, hl, hl2, fun s hs => ⟨i64Ok_of (hl3 s hs).1, i64Ok_of (hl3 s hs).2.1, i64Ok_of (hl3 s hs).2.2⟩⟩, ⟨ss, hS⟩, ⟨bs, hB⟩⟩

theorem ThreesIn.below {w w' : World} {v : Value} {l : List T3} (h : ThreesIn w v l) (hb : Below w.heap.size w w') : ThreesIn w' v l := RowIs.below h hb
theorem ThreesIn.len {w : World} {v : Value} {l : List T3} (h : ThreesIn w v l) : ∃ A c, v = .slice A l.length c := by
  obtain ⟨_, A, c, rfl, _⟩ := h
  exact ⟨A, c, rfl⟩
theorem TextsIn.below {w w' : World} {v : Value} {ss : List ByteArray} (h : TextsIn w v ss) (hb : Below w.heap.size w w') : TextsIn w' v ss := by
  obtain ⟨p, cap, h1, h2, h3, h4⟩ := h
  exact ⟨p, cap, h1, h2, h3, h4.below hb⟩
end Go.Proofs.Ytdagnmhioellhaa

/- Small walks under many laws: whether a shape may be; whether the ask is too much. -/

namespace Go.Proofs.Ytdagnmhioellhaa
open Go.ChangeShapes Go.WideShapes Go.ChangeAt Go.RowKit Go.Joins
set_option linter.unusedVariables false
set_option linter.unusedSimpArgs false

/-- Whether a shape may be. -/
def mayB (s : T3) : Bool := decide (1 ≤ s.1 ∧ s.1 ≤ 8 ∧ 0 ≤ s.2.1 ∧ s.2.1 ≤ 6 ∧ 1 ≤ s.2.2 ∧ s.2.2 ≤ 120)

set_option maxRecDepth 100000 in
set_option maxHeartbeats 400000 in
theorem refNum_any (n k : Int) (w : World) :
    Calls Try.prog 35 #[.int .i64 n, .int .i64 k] w fun e w' => e = .returned (.bool (decide (0 ≤ n ∧ n ≤ k))) ∧ w = w' := by
  go_enter Try.func35, Try.ntmps35
  go_wp2
  all_goals
    go_ret
    refine ⟨?_, rfl⟩
    simp_all <;> omega

set_option maxRecDepth 100000 in
set_option maxHeartbeats 400000 in
theorem refBetween_any (n k m : Int) (w : World) :
    Calls Try.prog 34 #[.int .i64 n, .int .i64 k, .int .i64 m] w fun e w' => e = .returned (.bool (decide (k ≤ n ∧ n ≤ m))) ∧ w = w' := by
  go_enter Try.func34, Try.ntmps34
  go_wp2
  all_goals
    go_ret
    refine ⟨?_, rfl⟩
    simp_all <;> omega

/-- The box of a struct of three numbers. -/
theorem box3_facts (w : World) (a b c : Value) (T : TypeId) :
    Below w.heap.size w (w.alloc (.cells #[a, b, c] T)) ∧ (w.alloc (.cells #[a, b, c] T)).cell? ⟨w.heap.size, 0, none⟩ = some a ∧ (w.alloc (.cells #[a, b, c] T)).cell? ⟨w.heap.size, 1, none⟩ = some b ∧ (w.alloc (.cells #[a, b, c] T)).cell? ⟨w.heap.size, 2, none⟩ = some c ∧ (w.alloc (.cells #[a, b, c] T)).heap.size = w.heap.size + 1 :=
  ⟨(Below.refl _ _).alloc (Nat.le_refl _) _, by simp [go_sem], by simp [go_sem], by simp [go_sem], by simp⟩

def shapeV (s : T3) : Value := .agg #[.int .i64 s.1, .int .i64 s.2.1, .int .i64 s.2.2]

set_option maxRecDepth 100000 in
set_option maxHeartbeats 1000000 in
theorem may_any (k m z : Int) (w : World) :
    Calls Try.prog 36 #[.agg #[.int .i64 k, .int .i64 m, .int .i64 z]] w fun e w' => e = .returned (.bool (mayB (k, m, z))) ∧ Below w.heap.size w w' := by
  obtain ⟨hb, h0, h1, h2, hsz⟩ := box3_facts w (.int .i64 k) (.int .i64 m) (.int .i64 z) 29
  go_enter Try.func36, Try.ntmps36
  go_wp2
  all_goals
    go_ret
    refine ⟨?_, hb⟩
    simp_all [mayB] <;> omega

set_option maxRecDepth 100000 in
set_option maxHeartbeats 1000000 in
theorem refShape_any (k m z : Int) (w : World) :
    Calls Try.prog 11 #[.agg #[.int .i64 k, .int .i64 m, .int .i64 z]] w fun e w' => e = .returned (.bool (mayB (k, m, z))) ∧ Below w.heap.size w w' := by
  obtain ⟨hb, h0, h1, h2, hsz⟩ := box3_facts w (.int .i64 k) (.int .i64 m) (.int .i64 z) 29
  go_enter Try.func11, Try.ntmps11
  go_wp2_with (first
    | (go_at_call 35; refine (refNum_any _ _ _).mono ?_; rintro e w' ⟨rfl, rfl⟩)
    | (go_at_call 34; refine (refBetween_any _ _ _ _).mono ?_; rintro e w' ⟨rfl, rfl⟩))
  all_goals
    go_ret
    refine ⟨?_, hb⟩
    simp_all [mayB] <;> omega

/-- What Heavy of silolaw4 comes to. -/
def HeavyOut4 (S : List T3) (L : List ByteArray) (bs : List Bool) (w : World) (e : Ending) (w' : World) : Prop := ∃ b : Bool, (b = false → total L ≤ 4000 ∧ bs.length ≤ 100 ∧ S.length ≤ 50) ∧ e = .returned (.bool b) ∧ Below w.heap.size w w'

set_option maxRecDepth 100000 in
set_option maxHeartbeats 1000000 in
theorem heavy4_any (c0 c1 c2 : Value) (S : List T3) (L : List ByteArray) (bs : List Bool) (w : World) (hS : ThreesIn w c0 S) (hL : TextsIn w c1 L) (hB : BoolsIn w c2 bs) (hS2 : S.length ≤ 9223372036854775807) :
    Calls Try.prog 10 #[.agg #[c0, c1, c2]] w (HeavyOut4 S L bs w) := by
  have hF := box3_facts w c0 c1 c2 26
  have hT := hL.below hF.1
  obtain ⟨A0, k0, rfl⟩ := hS.len
  obtain ⟨A2, k2, rfl, hb2⟩ := hB
  obtain ⟨A1, k1, rfl, h1⟩ := hL
  have hbl := hb2.1
  have HT := Lib.hid hT
  clear hT h1 hb2 hS
  go_enter Try.func10, Try.ntmps10
  obtain ⟨hbel, hc0, hc1, hc2, hsz⟩ := hF
  go_wp2_with (go_at_call 33; refine (texts_any _ L _ HT.out).mono ?_; rintro e w' ⟨r, hr, hr2, rfl, rfl⟩)
  all_goals
    go_ret
    refine ⟨_, ?_, rfl, hbel⟩
    intro hb
    simp at hb
    try omega

theorem below_cellj {W W' : World} {b j : Nat} {v : Value} (hc : W.cell? ⟨b, j, none⟩ = some v) (hs : W.heap.size = b + 1) (h : Below W.heap.size W W') : W'.cell? ⟨b, j, none⟩ = some v := by
  rw [h.cell (p := ⟨b, j, none⟩) (by show b < _; rw [hs]; omega)]; exact hc

end Go.Proofs.Ytdagnmhioellhaa

/- What comes in to the laws of matrices: matrices (or not), numbers, texts. -/

namespace Go.Proofs.Ytdagnmhioellhaa
open Go.ChangeShapes Go.WideShapes Go.ChangeAt Go.RowKit Go.Joins
open Go.Deep (open_slice open_slice1 oneCellFields hone_of)
set_option linter.unusedVariables false
set_option linter.unusedSimpArgs false

/-- A slice value of bytes that fits its room. -/
def RoomV (v : Value) (ns : List Nat) : Prop := ∃ A k, v = .slice A ns.length k ∧ ns.length ≤ k ∧ k ≤ 9223372036854775807
theorem bytesV_open {H : Type} {enc : TypeId × Value → H} {P : Program} {w : World} {base : Nat} {spare : Nat → Bool} {held : Bool} {t e : TypeId} {fuel : Nat} {v : Value} {x : DataW H × List MemPlace}
    (ht : P.underlying t = some (.slice e)) (he : P.underlying e = some (.int .u8)) (hc : P.cellsOf e = 1)
    (h : DataW.trod enc P w base spare held fuel t [v] = some x) : ∃ ns, BytesV w v ns ∧ RoomV v ns := by
  rcases open_slice1 ht hc h with ⟨hcs, _⟩ | ⟨a, len, cap, m, n, V, D, Pl, hcs, hb, hl, hm, hmm, hx, hi⟩
  · simp only [List.cons.injEq, and_true] at hcs
    subst hcs
    exact ⟨[], ⟨RowIs.nil _ _ _ _, by simp⟩, _, _, rfl, by simp, by omega⟩
  · simp only [List.cons.injEq, and_true] at hcs
    subst hcs
    have hlm : len ≤ m := by rw [hmm]; split <;> omega
    obtain ⟨ns, hnl, hns⟩ := pick_list (m := len) 0 (p := fun i (b : Nat) => b < 256 ∧ w.cell? (a.add i) = some (.int .u8 (b : Int))) (fun i hi' => by
      obtain ⟨h1, h2⟩ := hi i (by omega)
      obtain ⟨z, hz, _, hwf⟩ := DataW.trod_int he h2
      simp only [List.cons.injEq, and_true] at hz
      have hz2 : 0 ≤ z ∧ z ≤ 255 := by simpa [Lit.wf, IntKind.min, IntKind.max, IntKind.signed, IntKind.bits] using hwf
      exact ⟨z.toNat, by omega, by rw [h1, hz, Int.toNat_of_nonneg hz2.1]⟩)
    unfold maxLen at hm
    refine ⟨ns, ⟨⟨by simp, some a, cap, by rw [hnl], fun h0 => ?_⟩, ?_⟩, some a, cap, by rw [hnl], by omega, by omega⟩
    · obtain ⟨b, off, spot⟩ := a
      have hspot : spot = none := by simpa [Addr.add] using World.cell?_spot (hns 0 (by omega)).2
      subst hspot
      simp only [Go.WideShapes.add_plain] at hns
      refine ⟨b, off, rfl, cell_block (hns 0 (by omega)).2, fun j u hu => ?_⟩
      have hj : j < ns.length := by simpa using (List.getElem?_eq_some_iff.1 hu).1
      rw [(hns j (by omega)).2, ← hu]
      simp [List.getD, hj]
    · intro y hy
      obtain ⟨i, hi', rfl⟩ := List.getElem_of_mem hy
      have := (hns i (by omega)).1
      rwa [← List.getElem_eq_getD (h := hi')] at this

/-- Three cells of what a matrix is. -/
abbrev M3 := Int × Int × Value
def MatsIn (w : World) (v : Value) (l : List M3) : Prop :=
  ∃ A c, v = .slice A l.length c ∧ l.length ≤ 9223372036854775807 ∧ ∀ k, k < l.length → ∃ b o, A = some ⟨b, o, none⟩ ∧ b < w.heap.size ∧
    w.cell? ⟨b, o + k * 3, none⟩ = some (.int .i64 (l.getD k (0, 0, .slice none 0 0)).1) ∧ w.cell? ⟨b, o + k * 3 + 1, none⟩ = some (.int .i64 (l.getD k (0, 0, .slice none 0 0)).2.1) ∧ w.cell? ⟨b, o + k * 3 + 2, none⟩ = some (l.getD k (0, 0, .slice none 0 0)).2.2 ∧
    (∃ ns, BytesV w (l.getD k (0, 0, .slice none 0 0)).2.2 ns ∧ RoomV (l.getD k (0, 0, .slice none 0 0)).2.2 ns) ∧ ((Lit.int .i64 (l.getD k (0, 0, .slice none 0 0)).1).wf = true ∧ (Lit.int .i64 (l.getD k (0, 0, .slice none 0 0)).2.1).wf = true)
theorem MatsIn.below {w w' : World} {v : Value} {l : List M3} (h : MatsIn w v l) (hb : Below w.heap.size w w') : MatsIn w' v l := by
  obtain ⟨A, c, e, hl, h⟩ := h
  refine ⟨A, c, e, hl, fun k hk => ?_⟩
  obtain ⟨b, o, e, hlt, c0, c1, c2, ⟨ns, h1, h2⟩, h3⟩ := h k hk
  exact ⟨b, o, e, Nat.lt_of_lt_of_le hlt hb.size, below_celllt c0 hlt hb, below_celllt c1 hlt hb, below_celllt c2 hlt hb, ⟨ns, h1.below hb, h2⟩, h3⟩
theorem matsIn_open {H : Type} {enc : TypeId × Value → H} {P : Program} {w : World} {base : Nat} {spare : Nat → Bool} {held : Bool} {t e eb : TypeId} {f0 f1 f2 : Field} {fuel : Nat} {v : Value} {x : DataW H × List MemPlace} (ht : P.underlying t = some (.slice e)) (he : P.underlying e = some (.struct #[f0, f1, f2])) (hC : P.cellsOf e = 3)
    (u0 : P.underlying f0.type = some (.int .i64)) (u1 : P.underlying f1.type = some (.int .i64)) (u2 : P.underlying f2.type = some (.slice eb)) (ub : P.underlying eb = some (.int .u8)) (cb : P.cellsOf eb = 1)
    (o0 : f0.offset = 0) (o1 : f1.offset = 1) (o2 : f2.offset = 2) (c0 : P.cellsOf f0.type = 1) (c1 : P.cellsOf f1.type = 1) (c2 : P.cellsOf f2.type = 1)
    (h : DataW.trod enc P w base spare held fuel t [v] = some x) : ∃ l, MatsIn w v l := by
  rcases open_slice ht h with ⟨hcs, _⟩ | ⟨a, len, cap, m, n, D, Pl, hcs, hb, hl, hm, hmm, hx, hi⟩
  · simp only [List.cons.injEq, and_true] at hcs
    subst hcs
    exact ⟨[], none, 0, rfl, by simp, fun k hk => by simp at hk⟩
  · simp only [List.cons.injEq, and_true] at hcs
    subst hcs
    have hlm : len ≤ m := by rw [hmm]; split <;> omega
    rw [hC] at hi
    have hcell : ∀ i, i < len → ∃ s : M3, (w.cell? (a.add (i * 3)) = some (.int .i64 s.1) ∧ w.cell? (a.add (i * 3 + 1)) = some (.int .i64 s.2.1) ∧ w.cell? (a.add (i * 3 + 2)) = some s.2.2) ∧
        (∃ ns, BytesV w s.2.2 ns ∧ RoomV s.2.2 ns) ∧ (Lit.int .i64 s.1).wf = true ∧ (Lit.int .i64 s.2.1).wf = true := by
      intro i hi'
      obtain ⟨cs', hc, ht'⟩ := hi i (by omega)
      obtain ⟨_, hcl, hat⟩ := World.cells?_some hc
      obtain ⟨ys, n', _, _, hlen, hyl, hf⟩ := DataW.trod_struct he ht'
      match cs', hcl with
      | [w0, w1, w2], _ =>
        have g0 := hf 0 f0 rfl
        have g1 := hf 1 f1 rfl
        have g2 := hf 2 f2 rfl
        rw [o0, c0] at g0; rw [o1, c1] at g1; rw [o2, c2] at g2
        have l0 : ys[0]? = some (ys[0]'(by rw [hyl]; simp)) := List.getElem?_eq_getElem _
        have l1 : ys[1]? = some (ys[1]'(by rw [hyl]; simp)) := List.getElem?_eq_getElem _
        have l2 : ys[2]? = some (ys[2]'(by rw [hyl]; simp)) := List.getElem?_eq_getElem _
        rw [l0] at g0; rw [l1] at g1; rw [l2] at g2
        obtain ⟨z0, e0, _, b0⟩ := DataW.trod_int u0 g0
        obtain ⟨z1, e1, _, b1⟩ := DataW.trod_int u1 g1
        have g3 := bytesV_open u2 ub cb (show DataW.trod enc P w base spare held n' f2.type [w2] = some _ from g2)
        simp at e0 e1
        subst e0 e1
        have k0 := hat 0 (by omega); have k1 := hat 1 (by omega); have k2 := hat 2 (by omega)
        rw [Go.Deep.add_add] at k0 k1 k2
        exact ⟨(z0, z1, w2), ⟨by simpa using k0, by simpa using k1, by simpa using k2⟩, g3, b0, b1⟩
    obtain ⟨l, hll, hls⟩ := pick_list (m := len) ((0, 0, .slice none 0 0) : M3) hcell
    unfold maxLen at hm
    refine ⟨l, some a, cap, by rw [hll], by omega, fun k hk => ?_⟩
    obtain ⟨b, off, spot⟩ := a
    have hspot : spot = none := by simpa [Addr.add] using World.cell?_spot (hls 0 (by omega)).1.1
    subst hspot
    simp only [Go.WideShapes.add_plain] at hls
    obtain ⟨⟨q0, q1, q2⟩, q3, q4⟩ := hls k (by omega)
    exact ⟨b, off, rfl, cell_block q0, q0, by rw [Nat.add_assoc]; exact q1, by rw [Nat.add_assoc]; exact q2, q3, q4⟩
theorem cellsMat : Try.prog.cellsOf 33 = 3 := by kernel_rfl
theorem cellsMats : Try.prog.cellsOf 108 = 1 := by kernel_rfl
theorem cellsInt3 : Try.prog.cellsOf 3 = 1 := by kernel_rfl
theorem cellsInts3 : Try.prog.cellsOf 52 = 1 := by kernel_rfl
theorem cellsByte3 : Try.prog.cellsOf 5 = 1 := by kernel_rfl
theorem cellsBytes3 : Try.prog.cellsOf 31 = 1 := by kernel_rfl

end Go.Proofs.Ytdagnmhioellhaa

/- Copies of bytes and of matrices, that stand while other blocks are written. -/

namespace Go.Proofs.Ytdagnmhioellhaa
open Go.ChangeShapes Go.WideShapes Go.ChangeAt Go.RowKit Go.Joins
set_option linter.unusedVariables false
set_option linter.unusedSimpArgs false

theorem RowIs.set {w : World} {X o c n size : Nat} {xs : List Value} (h : RowIs w (.slice (some ⟨X, o, none⟩) n c) n size xs) {d : Addr} (hd : d.block ≠ X) (u : Value) : RowIs (w.setCell d u) (.slice (some ⟨X, o, none⟩) n c) n size xs := by
  obtain ⟨h1, A, c', e, h2⟩ := h
  cases e
  refine ⟨h1, _, _, rfl, fun hn => ?_⟩
  obtain ⟨b, o', e, hlt, hc⟩ := h2 hn
  cases e
  refine ⟨_, _, rfl, by simp only [World.size_setCell]; exact hlt, fun j y hy => ?_⟩
  rw [World.cell?_setCell_other _ _ _ _ (by intro e; apply hd; rw [e])]
  exact hc j y hy
/-- Bytes of one's own: those of block X, if there are any. -/
def OwnB (w : World) (X : Nat) (v : Value) (ns : List Nat) : Prop := BytesV w v ns ∧ RoomV v ns ∧ (ns.length = 0 ∨ (X < w.heap.size ∧ ∃ c, v = .slice (some ⟨X, 0, none⟩) ns.length c))
theorem OwnB.below {w w' : World} {X : Nat} {v : Value} {ns : List Nat} (h : OwnB w X v ns) (hb : Below w.heap.size w w') : OwnB w' X v ns :=
  ⟨h.1.below hb, h.2.1, h.2.2.imp id fun ⟨h1, h2⟩ => ⟨Nat.lt_of_lt_of_le h1 hb.size, h2⟩⟩
theorem OwnB.set {w : World} {X : Nat} {v : Value} {ns : List Nat} (h : OwnB w X v ns) {d : Addr} (hd : ns.length = 0 ∨ d.block ≠ X) (u : Value) : OwnB (w.setCell d u) X v ns := by
  obtain ⟨h1, h2, h3⟩ := h
  by_cases h0 : ns.length = 0
  · obtain ⟨⟨_, A, c, rfl, _⟩, h5⟩ := h1
    refine ⟨⟨⟨by simp, A, c, rfl, fun hn => absurd hn (by omega)⟩, h5⟩, h2, Or.inl h0⟩
  · obtain ⟨hX, c, rfl⟩ := h3.resolve_left h0
    exact ⟨⟨h1.1.set (hd.resolve_left h0) u, h1.2⟩, h2, Or.inr ⟨by simp only [World.size_setCell]; exact hX, c, rfl⟩⟩
/-- A store into a cell that holds no byte leaves bytes as they are. -/
theorem bytesV_apart {w : World} {v y : Value} {ns : List Nat} {d : Addr} (h : BytesV w v ns) (hy : w.cell? d = some y) (hne : ∀ x : Int, y ≠ .int .u8 x) (u : Value) : BytesV (w.setCell d u) v ns := by
  obtain ⟨⟨h1, A, c, e, h2⟩, h3⟩ := h
  refine ⟨⟨h1, A, c, e, fun hn => ?_⟩, h3⟩
  obtain ⟨b, o, eA, hlt, hc⟩ := h2 hn
  refine ⟨b, o, eA, by rw [World.size_setCell]; exact hlt, fun j z hz => ?_⟩
  have hcz := hc j z hz
  rw [World.cell?_setCell_other _ _ _ _ (by
    intro e
    rw [← e, hy] at hcz
    obtain ⟨n, _, rfl⟩ := List.mem_map.1 (List.mem_of_getElem? hz)
    exact hne _ (Option.some.inj hcz))]
  exact hcz
theorem bytesV_three {w : World} {v : Value} {ns : List Nat} {B : Nat} {a b : Int} {A : Option Addr} {n c : Nat} (h : BytesV w v ns) (t : Three w B (.int .i64 a) (.int .i64 b) (.slice A n c)) (u0 u1 u2 : Value) :
    BytesV (((w.setCell ⟨B, 0, none⟩ u0).setCell ⟨B, 1, none⟩ u1).setCell ⟨B, 2, none⟩ u2) v ns := by
  refine bytesV_apart (bytesV_apart (bytesV_apart h t.c0 (by simp) u0) (y := .int .i64 b) ?_ (by simp) u1) (y := .slice A n c) ?_ (by simp) u2
  · rw [World.cell?_setCell_other _ _ _ _ (by simp)]; exact t.c1
  · rw [World.cell?_setCell_other _ _ _ _ (by simp), World.cell?_setCell_other _ _ _ _ (by simp)]; exact t.c2
theorem own_of_row {w : World} {B : Nat} {e : TypeId} {v : Value} {ns : List Nat} (h : w.ownsRow B e 1 v ns.length (u8s ns)) (hb : ∀ x ∈ ns, x < 256) : ∃ X, OwnB w X v ns ∧ (ns.length = 0 ∨ B ≤ X) := by
  have hr := RowIs.of_own h
  by_cases h0 : ns.length = 0
  · refine ⟨0, ⟨⟨hr, hb⟩, ?_, Or.inl h0⟩, Or.inl h0⟩
    obtain ⟨_, ⟨rfl, _⟩ | ⟨g, cap, cur, rfl, _, _, h1, h2, _⟩⟩ := h
    · exact ⟨none, 0, by rw [h0], by omega, by omega⟩
    · exact ⟨_, _, rfl, h1, by unfold maxLen at h2; omega⟩
  · obtain ⟨g, cap, rfl, hB, hlt, h1, h2, _, _⟩ := own_blk h (by omega) hb
    exact ⟨g, ⟨⟨hr, hb⟩, ⟨_, _, rfl, h1, by unfold maxLen at h2; omega⟩, Or.inr ⟨hlt, cap, rfl⟩⟩, Or.inr hB⟩
theorem copyMat_any (R C : Int) (v : Value) (ns : List Nat) (w : World) (h : BytesV w v ns) (hl : ns.length ≤ 100000) :
    Calls Try.prog 71 #[matV R C v] w fun e w' => ∃ r X, e = .returned (matV R C r) ∧ OwnB w' X r ns ∧ (ns.length = 0 ∨ w.heap.size ≤ X) ∧ Below w.heap.size w w' :=
  (copyMatrix_any R C v ns w h hl).mono fun e w' ⟨r, h1, h2, h3⟩ => by
    obtain ⟨X, hX, hB⟩ := own_of_row h2 h.2
    exact ⟨r, X, h1, hX, hB, h3⟩
end Go.Proofs.Ytdagnmhioellhaa
