/- Structs and slices of structs that came in, opened, whatever they hold. -/
import Derived.Test.YtibinkppbdeofaaPk00LawMatrixTells
import Derived.WalkSpells
import Derived.WalkLawsBesides
import Derived.Handy
import Derived.Lib.Hide
import Derived.Laws.BitsLemmas
import Derived.Laws.BytesString
import Derived.Lib.ConvBytes
namespace Go.Proofs.Ytibinkppbdeofaa
open Go.ChangeShapes Go.WideShapes Go.ChangeAt Go.RowKit Go.Joins
open Go.Deep (open_slice open_slice1 oneCellFields hone_of)
set_option linter.unusedVariables false
set_option linter.unusedSimpArgs false

section
variable {H : Type} {enc : TypeId × Value → H} {P : Program} {w : World} {base : Nat} {spare : Nat → Bool} {held : Bool}

/-- One field of a struct's cells. -/
theorem open_field {t : TypeId} {fs : Array Field} {fuel : Nat} {cs : List Value} {x : DataW H × List MemPlace} (ht : P.underlying t = some (.struct fs)) (h : DataW.trod enc P w base spare held fuel t cs = some x) (hF : Fits P t x.1)
    (j : Nat) {f : Field} (hj : fs[j]? = some f) (cs' : List Value) {k : Nat} (hk : P.cellsOf f.type = k) (hc : (cs.drop f.offset).take k = cs') :
    ∃ n y, DataW.trod enc P w base spare held n f.type cs' = some y ∧ Fits P f.type y.1 := by
  obtain ⟨xs, n, _, rfl, _, hl, hg⟩ := DataW.trod_struct ht h
  have hlt : j < xs.length := by rw [hl]; exact (Array.getElem?_eq_some_iff.1 hj).1
  have h1 := hg j f hj
  rw [hk, hc, List.getElem?_eq_getElem hlt] at h1
  refine ⟨n, xs[j], h1, fits_field ht hF hj ?_⟩
  simp [hlt]

/-- A slice value, of whatever it is. -/
theorem open_any {t e : TypeId} {fuel : Nat} {v : Value} {x : DataW H × List MemPlace} (ht : P.underlying t = some (.slice e)) (h : DataW.trod enc P w base spare held fuel t [v] = some x) :
    ∃ p n c, v = .slice p n c ∧ n ≤ 9223372036854775807 := by
  rcases open_slice ht h with ⟨hcs, _⟩ | ⟨a, len, cap, m, n, D, Pl, hcs, hb, hl, hm, _⟩
  · simp only [List.cons.injEq, and_true] at hcs
    exact ⟨_, _, _, hcs, by omega⟩
  · simp only [List.cons.injEq, and_true] at hcs
    unfold maxLen at hm
    exact ⟨_, _, _, hcs, by omega⟩

theorem pick_list {α : Type} {m : Nat} {p : Nat → α → Prop} (d : α) (h : ∀ i, i < m → ∃ a, p i a) : ∃ l : List α, l.length = m ∧ ∀ i, i < m → p i (l.getD i d) := by
  refine ⟨(List.range m).map fun i => if hi : i < m then (h i hi).choose else d, by simp, fun i hi => ?_⟩
  have := (h i hi).choose_spec
  simpa [List.getD, hi] using this

/-- A slice value of truths that reads as these. -/
def BoolsIn (w : World) (v : Value) (bs : List Bool) : Prop :=
  ∃ p cap, v = .slice p bs.length cap ∧ SliceIn w p bs.length (fun i => .bool (bs.getD i false))
theorem BoolsIn.below {w w' : World} {v : Value} {bs : List Bool} (h : BoolsIn w v bs) (hb : Below w.heap.size w w') : BoolsIn w' v bs := by
  obtain ⟨p, cap, h1, h4⟩ := h
  exact ⟨p, cap, h1, h4.below hb⟩
theorem boolsIn_open {t e : TypeId} {fuel : Nat} {v : Value} {x : DataW H × List MemPlace} (ht : P.underlying t = some (.slice e)) (he : P.underlying e = some .bool) (hc : P.cellsOf e = 1)
    (h : DataW.trod enc P w base spare held fuel t [v] = some x) : ∃ bs, BoolsIn w v bs := by
  rcases open_slice1 ht hc h with ⟨hcs, _⟩ | ⟨a, len, cap, m, n, V, D, Pl, hcs, hb, hl, hm, hmm, hx, hi⟩
  · simp only [List.cons.injEq, and_true] at hcs
    exact ⟨[], _, _, hcs, by simp, fun i hi => by simp at hi⟩
  · simp only [List.cons.injEq, and_true] at hcs
    subst hcs
    have hlm : len ≤ m := by rw [hmm]; split <;> omega
    obtain ⟨bs, hbl, hbs⟩ := pick_list (m := len) false (p := fun i b => w.cell? (a.add i) = some (.bool b)) (fun i hi' => by
      obtain ⟨h1, h2⟩ := hi i (by omega)
      obtain ⟨b, hb, _⟩ := DataW.trod_bool he h2
      simp only [List.cons.injEq, and_true] at hb
      exact ⟨b, by rw [h1, hb]⟩)
    unfold maxLen at hm
    refine ⟨bs, some a, cap, by rw [hbl], ?_⟩
    rw [hbl]
    refine ⟨by omega, fun i hi' => ?_⟩
    have hci := hbs i hi'
    obtain ⟨b, off, spot⟩ := a
    have hspot : spot = none := by simpa [Addr.add] using World.cell?_spot (hbs 0 (by omega))
    subst hspot
    rw [Go.WideShapes.add_plain] at hci
    exact ⟨b, off, rfl, cell_block hci, hci⟩

/-- A slice of structs of three numbers. -/
theorem threesIn_open {t e : TypeId} {f0 f1 f2 : Field} {fuel : Nat} {v : Value} {x : DataW H × List MemPlace} (ht : P.underlying t = some (.slice e)) (he : P.underlying e = some (.struct #[f0, f1, f2])) (hC : P.cellsOf e = 3)
    (u0 : P.underlying f0.type = some (.int .i64)) (u1 : P.underlying f1.type = some (.int .i64)) (u2 : P.underlying f2.type = some (.int .i64))
    (o0 : f0.offset = 0) (o1 : f1.offset = 1) (o2 : f2.offset = 2) (c0 : P.cellsOf f0.type = 1) (c1 : P.cellsOf f1.type = 1) (c2 : P.cellsOf f2.type = 1)
    (h : DataW.trod enc P w base spare held fuel t [v] = some x) : ∃ l, ThreesIn w v l ∧ l.length ≤ 9223372036854775807 ∧ (∀ s ∈ l, (Lit.int .i64 s.1).wf = true ∧ (Lit.int .i64 s.2.1).wf = true ∧ (Lit.int .i64 s.2.2).wf = true) ∧ ∃ A c, v = .slice A l.length c ∧ l.length ≤ c := by
  rcases open_slice ht h with ⟨hcs, _⟩ | ⟨a, len, cap, m, n, D, Pl, hcs, hb, hl, hm, hmm, hx, hi⟩
  · simp only [List.cons.injEq, and_true] at hcs
    subst hcs
    exact ⟨[], RowIs.nil _ _ _ _, by simp, by simp, none, 0, rfl, by simp⟩
  · simp only [List.cons.injEq, and_true] at hcs
    subst hcs
    have hlm : len ≤ m := by rw [hmm]; split <;> omega
    rw [hC] at hi
    have hcell : ∀ i, i < len → ∃ s : T3, (w.cell? (a.add (i * 3)) = some (.int .i64 s.1) ∧ w.cell? (a.add (i * 3 + 1)) = some (.int .i64 s.2.1) ∧ w.cell? (a.add (i * 3 + 2)) = some (.int .i64 s.2.2)) ∧
        (Lit.int .i64 s.1).wf = true ∧ (Lit.int .i64 s.2.1).wf = true ∧ (Lit.int .i64 s.2.2).wf = true := by
      intro i hi'
      obtain ⟨cs', hc, ht'⟩ := hi i (by omega)
      obtain ⟨_, hcl, hat⟩ := World.cells?_some hc
      obtain ⟨ys, n', _, _, hlen, hyl, hf⟩ := DataW.trod_struct he ht'
      match cs', hcl with
      | [w0, w1, w2], _ =>
        have g0 := hf 0 f0 rfl
        have g1 := hf 1 f1 rfl
        have g2 := hf 2 f2 rfl
        rw [o0, c0] at g0; rw [o1, c1] at g1; rw [o2, c2] at g2
        have l0 : ys[0]? = some (ys[0]'(by rw [hyl]; simp)) := List.getElem?_eq_getElem _
        have l1 : ys[1]? = some (ys[1]'(by rw [hyl]; simp)) := List.getElem?_eq_getElem _
        have l2 : ys[2]? = some (ys[2]'(by rw [hyl]; simp)) := List.getElem?_eq_getElem _
        rw [l0] at g0; rw [l1] at g1; rw [l2] at g2
        obtain ⟨z0, e0, _, b0⟩ := DataW.trod_int u0 g0
        obtain ⟨z1, e1, _, b1⟩ := DataW.trod_int u1 g1
        obtain ⟨z2, e2, _, b2⟩ := DataW.trod_int u2 g2
        simp at e0 e1 e2
        subst e0 e1 e2
        have k0 := hat 0 (by omega); have k1 := hat 1 (by omega); have k2 := hat 2 (by omega)
        rw [Go.Deep.add_add] at k0 k1 k2
        exact ⟨(z0, z1, z2), ⟨by simpa using k0, by simpa using k1, by simpa using k2⟩, b0, b1, b2⟩
    obtain ⟨l, hll, hls⟩ := pick_list (m := len) ((0, 0, 0) : T3) hcell
    unfold maxLen at hm
    refine ⟨l, ⟨by rw [rows3_length], some a, cap, by rw [hll], fun hn => ?_⟩, by omega, ?_, some a, cap, by rw [hll], by omega⟩
    · obtain ⟨b, off, spot⟩ := a
      have hspot : spot = none := by simpa [Addr.add] using World.cell?_spot (hls 0 (by omega)).1.1
      subst hspot
      simp only [Go.WideShapes.add_plain] at hls
      refine ⟨b, off, rfl, cell_block (hls 0 (by omega)).1.1, fun j u hu => ?_⟩
      have hj : j < l.length * 3 := by rw [← rows3_length]; exact (List.getElem?_eq_some_iff.1 hu).1
      have hjl : j / 3 < l.length := by omega
      obtain ⟨q0, q1, q2⟩ := rows3_get l (j / 3) (l.getD (j / 3) (0, 0, 0)) (by simp [List.getD, hjl])
      obtain ⟨⟨r0, r1, r2⟩, _⟩ := hls (j / 3) (by omega)
      have hd : j = j / 3 * 3 + j % 3 := by omega
      have hm3 : j % 3 = 0 ∨ j % 3 = 1 ∨ j % 3 = 2 := by omega
      rcases hm3 with e | e | e <;> rw [e] at hd
      · rw [hd, Nat.add_zero] at hu ⊢; rw [q0] at hu; cases hu; exact r0
      · rw [hd] at hu ⊢; rw [q1] at hu; cases hu; exact r1
      · rw [hd] at hu ⊢; rw [q2] at hu; cases hu; exact r2
    · intro s hs
      obtain ⟨i, hi', rfl⟩ := List.getElem_of_mem hs
      have := (hls i (by omega)).2
      simpa [List.getD, hi'] using this
end
end Go.Proofs.Ytibinkppbdeofaa

/- Small helpers of the statements: Within brings a number within bounds; Texts says how much some texts are; Heavy whether that is too much. -/

namespace Go.Proofs.Ytibinkppbdeofaa
open Go.ChangeShapes Go.WideShapes Go.ChangeAt Go.RowKit Go.Joins
set_option linter.unusedVariables false
set_option linter.unusedSimpArgs false

/-- A number brought below another one. -/
def withinI (i n : Int) : Int := wrap64 ((IntKind.u64.wrap i).tmod (IntKind.u64.wrap n))
theorem within_calc (i n : Int) (h0 : 0 < n) (h1 : n ≤ 9223372036854775807) : IntKind.u64.wrap n ≠ 0 ∧ 0 ≤ withinI i n ∧ withinI i n < n := by
  unfold withinI
  have e : IntKind.u64.wrap n = n := IntWalk.u64_in _ (by omega)
  rw [e]
  have hw : 0 ≤ IntKind.u64.wrap i := by rw [IntKind.wrap_u64]; omega
  rw [Int.tmod_eq_emod_of_nonneg hw]
  have h2 := Int.emod_nonneg (IntKind.u64.wrap i) (b := n) (by omega)
  have h3 := Int.emod_lt_of_pos (IntKind.u64.wrap i) h0
  generalize IntKind.u64.wrap i % n = r at *
  rw [IntWalk.wrap64_in _ (by omega)]
  exact ⟨by omega, h2, h3⟩
theorem within_bd (i n : Int) (h0 : 0 < n) (h1 : n ≤ 9223372036854775807) : 0 ≤ withinI i n ∧ withinI i n < n := (within_calc i n h0 h1).2

set_option maxRecDepth 100000 in
set_option maxHeartbeats 400000 in
theorem within_any (i n : Int) (w : World) (h0 : 0 < n) (h1 : n ≤ 9223372036854775807) :
    Calls Try.prog 16 #[.int .i64 i, .int .i64 n] w fun e w' => e = .returned (.int .i64 (withinI i n)) ∧ w = w' := by
  obtain ⟨hne, h2⟩ := within_calc i n h0 h1
  clear h0 h1 h2
  go_enter Try.func16, Try.ntmps16
  go_wp2
  go_ret
  exact ⟨rfl, rfl⟩

/-- What Texts comes to: how much the texts are, or more than is played. -/
def TotalOut (ss : List ByteArray) (w : World) (e : Ending) (w' : World) : Prop := ∃ r : Nat, (r = total ss ∨ 1048576 ≤ r) ∧ r ≤ 9223372036854775807 ∧ e = .returned (.int .i64 (r : Int)) ∧ w = w'

set_option maxRecDepth 100000 in
set_option maxHeartbeats 400000 in
theorem texts_any (v : Value) (ss : List ByteArray) (w : World) (h : TextsIn w v ss) :
    Calls Try.prog 37 #[v] w (TotalOut ss w) := by
  obtain ⟨p, cap, rfl, h16, hs, hS⟩ := h
  have HS := Lib.hid hS
  have HB := Lib.hid hs
  clear hS hs
  go_enter Try.func37, Try.ntmps37
  go_wp2_with fail
  go_loop [3, 4] (fun n i => ∃ k m : Nat, i = .int .i64 k ∧ n = .int .i64 m ∧ k ≤ ss.length ∧ m ≤ 9000000000000000000 ∧ Hid (m = ss.length + ((ss.take k).map ByteArray.size).sum)) (fun _ i => ss.length - (intOf i).toNat)
  case atStart => exact ⟨0, ss.length, rfl, rfl, by omega, by omega, by simp [Hid]⟩
  case round =>
    obtain ⟨k, m, rfl, rfl, hk, hm, HM⟩ := hrel
    by_cases hlt : k < ss.length
    · obtain ⟨b, off, s, rfl, hsz, HE, hcell⟩ := text_at HS.out HB.out hlt
      by_cases h20 : m < 1048576
      · have hd : decide ((m : Int) < 1048576) = true := by simp; omega
        go_wp2_with fail
        go_round
        case rel => exact ⟨k + 1, m + s.size, by go_num, by go_num, by omega, by omega, by rw [Hid, total_step hlt, ← HE.out, HM.out]; omega⟩
        case measure => simp [intOf]; omega
      · have hd : decide ((m : Int) < 1048576) = false := by simp; omega
        go_wp2_with fail
        go_ret
        exact ⟨m, Or.inr (by omega), by omega, rfl, rfl⟩
    · have hke : k = ss.length := by omega
      have HT : Hid (m = total ss) := by rw [Hid, HM.out, hke, List.take_length]; rfl
      go_wp2_with fail
      all_goals
        go_ret
        exact ⟨m, Or.inl HT.out, by omega, rfl, rfl⟩
end Go.Proofs.Ytibinkppbdeofaa

/- What a call leaves as it was: all blocks that were there but some. Blocks of cells that are known and may be written. -/

namespace Go.Proofs.Ytibinkppbdeofaa
open Go.ChangeShapes Go.WideShapes Go.ChangeAt Go.RowKit Go.Joins
set_option linter.unusedVariables false
set_option linter.unusedSimpArgs false

/-- All that was there stands, but for blocks of which p tells. -/
structure Kept (p : Nat → Prop) (w w' : World) : Prop where
  os : w'.os = w.os
  tape : w'.tape = w.tape
  output : w'.output = w.output
  size : w.heap.size ≤ w'.heap.size
  block : ∀ k, k < w.heap.size → ¬ p k → w'.heap[k]? = w.heap[k]?

theorem Kept.refl (p : Nat → Prop) (w : World) : Kept p w w := ⟨rfl, rfl, rfl, Nat.le_refl _, fun _ _ _ => rfl⟩
theorem Kept.trans {p : Nat → Prop} {a b c : World} (h : Kept p a b) (k : Kept p b c) : Kept p a c :=
  ⟨k.os.trans h.os, k.tape.trans h.tape, k.output.trans h.output, Nat.le_trans h.size k.size, fun i hi hp => (k.block i (Nat.lt_of_lt_of_le hi h.size) hp).trans (h.block i hi hp)⟩
theorem Kept.mono {p q : Nat → Prop} {a b : World} (h : Kept p a b) (hpq : ∀ k, k < a.heap.size → p k → q k) : Kept q a b :=
  ⟨h.os, h.tape, h.output, h.size, fun k hk hq => h.block k hk fun hp => hq (hpq k hk hp)⟩
theorem Kept.of_below {p : Nat → Prop} {a b : World} (h : Below a.heap.size a b) : Kept p a b :=
  ⟨h.os, h.tape, h.output, h.size, fun k hk _ => h.block k hk⟩
theorem Kept.below {p : Nat → Prop} {a b : World} {B : Nat} (h : Kept p a b) (hB : B ≤ a.heap.size) (hp : ∀ k, k < B → ¬ p k) : Below B a b :=
  ⟨h.os, h.tape, h.output, h.size, fun k hk => h.block k (Nat.lt_of_lt_of_le hk hB) (hp k hk)⟩
/-- Of blocks that were not there at first nothing is said. -/
theorem Kept.trans_new {p q : Nat → Prop} {a b c : World} (h : Kept p a b) (k : Kept q b c) (hq : ∀ j, j < a.heap.size → q j → p j) : Kept p a c :=
  ⟨k.os.trans h.os, k.tape.trans h.tape, k.output.trans h.output, Nat.le_trans h.size k.size, fun i hi hp => (k.block i (Nat.lt_of_lt_of_le hi h.size) (fun hqi => hp (hq i hi hqi))).trans (h.block i hi hp)⟩
theorem Kept.drew {p : Nat → Prop} {a w : World} (h : Kept p a w) : Kept p a w.drew := ⟨h.os, h.tape, h.output, h.size, h.block⟩
theorem Kept.drewN {p : Nat → Prop} {a w : World} (h : Kept p a w) (n : Nat) : Kept p a (w.drewN n) := ⟨h.os, h.tape, h.output, h.size, h.block⟩
theorem Kept.alloc {p : Nat → Prop} {a w : World} (h : Kept p a w) (o : Obj) : Kept p a (w.alloc o) :=
  h.trans (Kept.of_below ((Below.refl _ _).alloc (Nat.le_refl _) o))
theorem Kept.setCell {p : Nat → Prop} {a w : World} (h : Kept p a w) {d : Addr} (hd : d.block < a.heap.size → p d.block) (u : Value) : Kept p a (w.setCell d u) := by
  refine ⟨h.os, h.tape, h.output, Nat.le_trans h.size (Nat.le_of_eq (World.size_setCell _ _ _).symm), fun k hk hp => ?_⟩
  rw [Below.heap_setCell _ _ _ _ (fun e => hp (by rw [e]; exact hd (by rw [← e]; exact hk)))]
  exact h.block k hk hp
theorem Kept.cell {p : Nat → Prop} {a w : World} (h : Kept p a w) {d : Addr} (hd : d.block < a.heap.size) (hp : ¬ p d.block) : w.cell? d = a.cell? d := World.cell?_of_block (w := a) (h.block d.block hd hp)
theorem Kept.frozen {p : Nat → Prop} {a w : World} (h : Kept p a w) {d : Addr} (hd : d.block < a.heap.size) (hp : ¬ p d.block) : w.frozen? d = a.frozen? d := World.frozen?_of_block (w := a) (h.block d.block hd hp)
theorem Kept.cell_eq {p : Nat → Prop} {a w : World} {b o : Nat} {v : Value} (h : Kept p a w) (hc : a.cell? ⟨b, o, none⟩ = some v) (hp : ¬ p b) : w.cell? ⟨b, o, none⟩ = some v := by
  rw [h.cell (d := ⟨b, o, none⟩) (cell_block hc) hp]; exact hc

/-- Cells from a place of a block on, that may be written. -/
def CellsAt (w : World) (b o : Nat) (cs : List Value) : Prop := b < w.heap.size ∧ ∀ i, i < cs.length → w.cell? ⟨b, o + i, none⟩ = some (cs.getD i default) ∧ w.frozen? ⟨b, o + i, none⟩ = false
theorem CellsAt.cell {w : World} {b o : Nat} {cs : List Value} (h : CellsAt w b o cs) {i : Nat} (hi : i < cs.length) : w.cell? ⟨b, o + i, none⟩ = some cs[i] := by
  rw [(h.2 i hi).1, ← List.getElem_eq_getD (h := hi)]
theorem CellsAt.free {w : World} {b o : Nat} {cs : List Value} (h : CellsAt w b o cs) {i : Nat} (hi : i < cs.length) : w.frozen? ⟨b, o + i, none⟩ = false := (h.2 i hi).2
theorem CellsAt.drew {w : World} {b o : Nat} {cs : List Value} (h : CellsAt w b o cs) : CellsAt w.drew b o cs := h
theorem CellsAt.drewN {w : World} {b o : Nat} {cs : List Value} (h : CellsAt w b o cs) (n : Nat) : CellsAt (w.drewN n) b o cs := h
theorem CellsAt.kept {p : Nat → Prop} {w w' : World} {b o : Nat} {cs : List Value} (h : CellsAt w b o cs) (hk : Kept p w w') (hp : ¬ p b) : CellsAt w' b o cs :=
  ⟨Nat.lt_of_lt_of_le h.1 hk.size, fun i hi => ⟨by rw [hk.cell (d := ⟨b, o + i, none⟩) h.1 hp]; exact (h.2 i hi).1, by rw [hk.frozen (d := ⟨b, o + i, none⟩) h.1 hp]; exact (h.2 i hi).2⟩⟩
theorem CellsAt.below {w w' : World} {b o : Nat} {cs : List Value} (h : CellsAt w b o cs) (hk : Below w.heap.size w w') : CellsAt w' b o cs :=
  h.kept (p := fun _ => False) (Kept.of_below hk) id
theorem CellsAt.alloc {w : World} {b o : Nat} {cs : List Value} (h : CellsAt w b o cs) (x : Obj) : CellsAt (w.alloc x) b o cs := h.below ((Below.refl _ _).alloc (Nat.le_refl _) x)
/-- A store into one of them. -/
theorem CellsAt.set {w : World} {b o : Nat} {cs : List Value} (h : CellsAt w b o cs) {k : Nat} (hk : k < cs.length) (v : Value) : CellsAt (w.setCell ⟨b, o + k, none⟩ v) b o (cs.set k v) := by
  refine ⟨by rw [World.size_setCell]; exact h.1, fun i hi => ?_⟩
  rw [List.length_set] at hi
  obtain ⟨h1, h2⟩ := h.2 i hi
  by_cases e : k = i
  · subst e
    have hg : (cs.set k v).getD k default = v := by simp [List.getD, hi]
    rw [hg]
    exact ⟨World.cell?_setCell_same' _ _ _ (by rw [h1]; rfl), by rw [World.frozen?_setCell]; exact h2⟩
  · have hg : (cs.set k v).getD i default = cs.getD i default := by simp [List.getD, List.getElem?_set, e]
    rw [hg]
    exact ⟨by rw [World.cell?_setCell_other _ _ _ _ (by simp [e])]; exact h1, by rw [World.frozen?_setCell]; exact h2⟩
/-- A store elsewhere in its block or in another one. -/
theorem CellsAt.set_far {w : World} {b o : Nat} {cs : List Value} (h : CellsAt w b o cs) {d : Addr} (hd : d.block ≠ b ∨ d.off < o ∨ o + cs.length ≤ d.off) (v : Value) : CellsAt (w.setCell d v) b o cs := by
  refine ⟨by rw [World.size_setCell]; exact h.1, fun i hi => ?_⟩
  obtain ⟨h1, h2⟩ := h.2 i hi
  refine ⟨?_, by rw [World.frozen?_setCell]; exact h2⟩
  rw [World.cell?_setCell_other _ _ _ _ (fun e => ?_)]
  · exact h1
  · subst e
    rcases hd with hd | hd | hd
    · exact hd rfl
    · simp at hd; omega
    · simp at hd; omega
/-- A block that was just laid. -/
theorem CellsAt.new (w : World) (cs : Array Value) (t : TypeId) : CellsAt (w.alloc (.cells cs t)) w.heap.size 0 cs.toList := by
  refine ⟨by simp, fun i hi => ?_⟩
  rw [Array.length_toList] at hi
  rw [Nat.zero_add]
  refine ⟨?_, by simp [go_sem]⟩
  rw [cell_of_row _ _ _ cs t (0, 0) Array.getElem?_push_size]
  simp [List.getD, hi]
theorem CellsAt.part {w : World} {b o : Nat} {cs : List Value} (h : CellsAt w b o cs) (k n : Nat) (hk : k + n ≤ cs.length) : CellsAt w b (o + k) ((cs.drop k).take n) := by
  refine ⟨h.1, fun i hi => ?_⟩
  rw [List.length_take, List.length_drop] at hi
  obtain ⟨h1, h2⟩ := h.2 (k + i) (by omega)
  rw [← Nat.add_assoc] at h1 h2
  refine ⟨?_, h2⟩
  rw [h1]
  simp [List.getD, List.getElem?_take, show i < n by omega]
end Go.Proofs.Ytibinkppbdeofaa

/- A text's bytes as natural numbers. -/

namespace Go.Proofs.Ytibinkppbdeofaa

/-- A string's bytes as natural numbers. -/
def bytesOf (s : ByteArray) : List Nat := s.data.toList.map UInt8.toNat
theorem bytesOf_length (s : ByteArray) : (bytesOf s).length = s.size := by simp [bytesOf]
theorem bytesOf_lt (s : ByteArray) : ∀ b ∈ bytesOf s, b < 256 := by
  intro b hb
  obtain ⟨c, _, rfl⟩ := List.mem_map.1 hb
  exact c.toNat_lt
theorem bytesOf_take (s : ByteArray) (k : Nat) (h : k < s.size) : (bytesOf s).take (k + 1) = (bytesOf s).take k ++ [s[k].toNat] := by
  rw [List.take_succ_eq_append_getElem (by rw [bytesOf_length]; exact h)]
  simp [bytesOf]; try rfl

end Go.Proofs.Ytibinkppbdeofaa

/- Texts made of bytes: what make and the conversions between bytes and texts come to. -/

namespace Go.Proofs.Ytibinkppbdeofaa
open Go.ChangeShapes Go.WideShapes Go.ChangeAt Go.RowKit Go.Joins
set_option linter.unusedVariables false
set_option linter.unusedSimpArgs false

/-- A text of these numbers. -/
def strOf8 (ns : List Nat) : ByteArray := ⟨(ns.map UInt8.ofNat).toArray⟩
def cellsOf8 (ns : List Nat) : Array Value := (ns.map fun n : Nat => Value.int .u8 (n : Int)).toArray
theorem strOf8_size (ns : List Nat) : (strOf8 ns).size = ns.length := by simp [strOf8, ByteArray.size]

theorem push_fold (ns : List Int) : ∀ s : ByteArray, ns.foldl (fun r n => r.push (UInt8.ofNat n.toNat)) s = ⟨(s.data.toList ++ ns.map fun n => UInt8.ofNat n.toNat).toArray⟩ := by
  induction ns with
  | nil => intro s; cases s; simp
  | cons n ns ih =>
    intro s
    simp only [List.foldl_cons, ih]
    cases s
    simp [ByteArray.push]

theorem convert_bytes {P : Program} {w : World} {src dst e : TypeId} {b off cap : Nat} {ns : List Nat}
    (hs : P.underlying src = some (.slice e)) (he : P.underlying e = some (.int .u8)) (hd : P.underlying dst = some .string)
    (h : ∀ i, i < ns.length → w.cell? ⟨b, off + i, none⟩ = some (.int .u8 ((ns.getD i 0 : Nat) : Int))) :
    (convert src dst (.slice (some ⟨b, off, none⟩) ns.length cap)).run P w = .ok (.string (strOf8 ns)) w := by
  rw [run_convert_bytes_string w src dst e _ _ _ hs he hd]
  have hl : (loadCells ⟨b, off, none⟩ ns.length).run P w = .ok ((ns.map (fun n : Nat => (n : Int))).map (Value.int .u8)).toArray w := by
    have h1 : ns.length = ((ns.map (fun n : Nat => (n : Int))).map (Value.int .u8)).length := by simp
    rw [h1]
    refine run_loadCells_list (P := P) w ⟨b, off, none⟩ _ (fun j v hv => ?_)
    have hj : j < ns.length := by
      have := (List.getElem?_eq_some_iff.1 hv).1
      simpa using this
    rw [Go.WideShapes.add_plain, h j hj]
    simp only [List.map_map, List.getElem?_map, List.getElem?_eq_getElem hj, Option.map_some, Function.comp] at hv
    rw [← Option.some.inj hv, List.getD_eq_getElem?_getD, List.getElem?_eq_getElem hj]
    rfl
  rw [run_bytesToString w _ _ _ _ hl, push_fold]
  congr 3
  simp [strOf8, Function.comp_def]

theorem cells8_cell {w : World} {B : Nat} {ns : List Nat} {T : TypeId} {fr : Nat × Nat} (h : w.heap[B]? = some (.cells (cellsOf8 ns) T fr)) : ∀ i, i < ns.length → w.cell? ⟨B, 0 + i, none⟩ = some (.int .u8 ((ns.getD i 0 : Nat) : Int)) := by
  intro i hi
  rw [Nat.zero_add, cell_of_row w B i _ _ _ h]
  simp [cellsOf8, hi]

theorem hmk8 {n : Nat} (hn : n ≤ 100000) : ∀ w, (Instr.makeSlice 28 (.int .i64 (n : Int)) (.int .i64 (n : Int))).run Try.prog w = .ok (.slice (some ⟨w.heap.size, 0, none⟩) n n) (w.alloc (.cells (cellsOf8 (List.replicate n 0)) 5)) := by
  intro w
  have hi : ∃ i, Try.prog.info? 5 = some i ∧ i.zero = some (.int .u8 0) ∧ i.size = 1 ∧ i.bytes = 1 := by
    have h : (Try.prog.info? 5).map (fun i => (i.zero, i.size, i.bytes)) = some (some (.int .u8 0), 1, 1) := by kernel_rfl
    obtain ⟨i0, h1, h2, h3, h4⟩ := info_parts h
    exact ⟨i0, h1, h2, h3, h4⟩
  obtain ⟨i, h1, h2, h3, h4⟩ := hi
  have hr := run_make (P := Try.prog) w 28 5 i _ Try.underlying28 h1 h2 .i64 .i64 (n : Int) (n : Int) (by omega) (by omega) (by rw [h4]; omega) (by omega)
  rw [hr]
  have e : madeCells (Value.int .u8 0).cells ((n : Int).toNat * i.size) = cellsOf8 (List.replicate n 0) := by
    rw [h3, Int.toNat_natCast, Nat.mul_one]
    apply Array.ext
    · simp [madeCells, cellsOf8]
    · intro j h1 h2
      simp [madeCells, Value.cells, cellsOf8, Nat.mod_one]
  rw [e, Int.toNat_natCast]

/-- A block whose cells hold these bytes, and may be written. -/
def BytesBlk (w : World) (B : Nat) (ns : List Nat) : Prop := ∀ i, i < ns.length → ns.getD i 0 < 256 ∧ w.cell? ⟨B, i, none⟩ = some (.int .u8 ((ns.getD i 0 : Nat) : Int)) ∧ w.frozen? ⟨B, i, none⟩ = false
theorem BytesBlk.next {w : World} {B k v : Nat} {ns : List Nat} (h : BytesBlk w B ns) (hv : v < 256) : BytesBlk (w.setCell ⟨B, k, none⟩ (.int .u8 (v : Int))) B (ns.set k v) := by
  intro i hi
  rw [List.length_set] at hi
  obtain ⟨h1, h2, h3⟩ := h i hi
  by_cases e : k = i
  · subst e
    have hg : (ns.set k v).getD k 0 = v := by simp [List.getD, hi]
    rw [hg]
    exact ⟨hv, World.cell?_setCell_same' _ _ _ (by rw [h2]; rfl), by rw [World.frozen?_setCell]; exact h3⟩
  · have hg : (ns.set k v).getD i 0 = ns.getD i 0 := by simp [List.getD, List.getElem?_set, e]
    rw [hg]
    exact ⟨h1, by rw [World.cell?_setCell_other _ _ _ _ (by simp [e])]; exact h2, by rw [World.frozen?_setCell]; exact h3⟩
theorem BytesBlk.drew {w : World} {B : Nat} {ns : List Nat} (h : BytesBlk w B ns) : BytesBlk w.drew B ns := h
theorem BytesBlk.cells {w : World} {B : Nat} {ns : List Nat} (h : BytesBlk w B ns) : ∀ i, i < ns.length → w.cell? ⟨B, 0 + i, none⟩ = some (.int .u8 ((ns.getD i 0 : Nat) : Int)) := fun i hi => by
  rw [Nat.zero_add]; exact (h i hi).2.1
theorem bytesBlk_of (w : World) (e : TypeId) (s : ByteArray) : BytesBlk (Lib.bytesWorld w e s) w.heap.size (bytesOf s) := by
  intro i hi
  rw [bytesOf_length] at hi
  have hg : (bytesOf s).getD i 0 = (s.data.toList.getD i 0).toNat := by simp [bytesOf, List.getD, hi]
  refine ⟨by rw [hg]; exact UInt8.toNat_lt _, by rw [hg]; exact Lib.bytesWorld_cell w e s i hi, ?_⟩
  have h := Lib.bytesWorld_at_new w e s
  have hsz : i < (Lib.bytesCells w e s).size := by simp [Lib.bytesCells]; have : s.data.size = s.size := rfl; omega
  unfold World.frozen?
  rw [h]
  simp; omega
theorem bytesWorld_below (w : World) (e : TypeId) (s : ByteArray) : Below w.heap.size w (Lib.bytesWorld w e s) :=
  ⟨rfl, rfl, rfl, by rw [Lib.bytesWorld_size]; omega, fun k hk => Lib.bytesWorld_at_old w e s k hk⟩

theorem bytesOf_strOf8 {ns : List Nat} (h : ∀ n ∈ ns, n < 256) : bytesOf (strOf8 ns) = ns := by
  simp only [bytesOf, strOf8, List.toList_toArray, List.map_map]
  conv => rhs; rw [← List.map_id ns]
  apply List.map_congr_left
  intro a ha
  have := h a ha
  simp [UInt8.toNat_ofNat, Nat.mod_eq_of_lt this]
end Go.Proofs.Ytibinkppbdeofaa
