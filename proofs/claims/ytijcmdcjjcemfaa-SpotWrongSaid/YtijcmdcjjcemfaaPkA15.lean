/- Small walks under many laws: whether a shape may be; whether the ask is too much. -/
import Derived.Test.YtijcmdcjjcemfaaPkA14
import Derived.BigQuiet
import Derived.BigRegion
import Derived.Test.YtijcmdcjjcemfaaPkA03
import Derived.Test.YtijcmdcjjcemfaaPkA09
import Derived.Test.YtijcmdcjjcemfaaPkA06
import Derived.Test.YtijcmdcjjcemfaaPkA02
namespace Go.Proofs.Ytijcmdcjjcemfaa
open Go.ChangeShapes Go.WideShapes Go.ChangeAt Go.RowKit Go.Joins
set_option linter.unusedVariables false
set_option linter.unusedSimpArgs false

/-- Whether a shape may be. -/
def mayB (s : T3) : Bool := decide (1 ≤ s.1 ∧ s.1 ≤ 8 ∧ 0 ≤ s.2.1 ∧ s.2.1 ≤ 6 ∧ 1 ≤ s.2.2 ∧ s.2.2 ≤ 120)

set_option maxRecDepth 100000 in
set_option maxHeartbeats 400000 in
theorem refNum_any (n k : Int) (w : World) :
    Calls Try.prog 31 #[.int .i64 n, .int .i64 k] w fun e w' => e = .returned (.bool (decide (0 ≤ n ∧ n ≤ k))) ∧ w = w' := by
  go_enter Try.func31, Try.ntmps31
  go_wp2
  all_goals
    go_ret
    refine ⟨?_, rfl⟩
    simp_all <;> omega

set_option maxRecDepth 100000 in
set_option maxHeartbeats 400000 in
theorem refBetween_any (n k m : Int) (w : World) :
    Calls Try.prog 30 #[.int .i64 n, .int .i64 k, .int .i64 m] w fun e w' => e = .returned (.bool (decide (k ≤ n ∧ n ≤ m))) ∧ w = w' := by
  go_enter Try.func30, Try.ntmps30
  go_wp2
  all_goals
    go_ret
    refine ⟨?_, rfl⟩
    simp_all <;> omega

/-- The box of a struct of three numbers. -/
theorem box3_facts (w : World) (a b c : Value) (T : TypeId) :
    Below w.heap.size w (w.alloc (.cells #[a, b, c] T)) ∧ (w.alloc (.cells #[a, b, c] T)).cell? ⟨w.heap.size, 0, none⟩ = some a ∧ (w.alloc (.cells #[a, b, c] T)).cell? ⟨w.heap.size, 1, none⟩ = some b ∧ (w.alloc (.cells #[a, b, c] T)).cell? ⟨w.heap.size, 2, none⟩ = some c ∧ (w.alloc (.cells #[a, b, c] T)).heap.size = w.heap.size + 1 :=
  ⟨(Below.refl _ _).alloc (Nat.le_refl _) _, by simp [go_sem], by simp [go_sem], by simp [go_sem], by simp⟩

def shapeV (s : T3) : Value := .agg #[.int .i64 s.1, .int .i64 s.2.1, .int .i64 s.2.2]

set_option maxRecDepth 100000 in
set_option maxHeartbeats 1000000 in
theorem may_any (k m z : Int) (w : World) :
    Calls Try.prog 38 #[.agg #[.int .i64 k, .int .i64 m, .int .i64 z]] w fun e w' => e = .returned (.bool (mayB (k, m, z))) ∧ Below w.heap.size w w' := by
  obtain ⟨hb, h0, h1, h2, hsz⟩ := box3_facts w (.int .i64 k) (.int .i64 m) (.int .i64 z) 29
  go_enter Try.func38, Try.ntmps38
  go_wp2
  all_goals
    go_ret
    refine ⟨?_, hb⟩
    simp_all [mayB] <;> omega

set_option maxRecDepth 100000 in
set_option maxHeartbeats 1000000 in
theorem refShape_any (k m z : Int) (w : World) :
    Calls Try.prog 20 #[.agg #[.int .i64 k, .int .i64 m, .int .i64 z]] w fun e w' => e = .returned (.bool (mayB (k, m, z))) ∧ Below w.heap.size w w' := by
  obtain ⟨hb, h0, h1, h2, hsz⟩ := box3_facts w (.int .i64 k) (.int .i64 m) (.int .i64 z) 29
  go_enter Try.func20, Try.ntmps20
  go_wp2_with (first
    | (go_at_call 31; refine (refNum_any _ _ _).mono ?_; rintro e w' ⟨rfl, rfl⟩)
    | (go_at_call 30; refine (refBetween_any _ _ _ _).mono ?_; rintro e w' ⟨rfl, rfl⟩))
  all_goals
    go_ret
    refine ⟨?_, hb⟩
    simp_all [mayB] <;> omega

/-- What Heavy of silolaw4 comes to. -/
def HeavyOut4 (S : List T3) (L : List ByteArray) (bs : List Bool) (w : World) (e : Ending) (w' : World) : Prop := ∃ b : Bool, (b = false → total L ≤ 4000 ∧ bs.length ≤ 100 ∧ S.length ≤ 50) ∧ e = .returned (.bool b) ∧ Below w.heap.size w w'

set_option maxRecDepth 100000 in
set_option maxHeartbeats 1000000 in
theorem heavy4_any (c0 c1 c2 : Value) (S : List T3) (L : List ByteArray) (bs : List Bool) (w : World) (hS : ThreesIn w c0 S) (hL : TextsIn w c1 L) (hB : BoolsIn w c2 bs) (hS2 : S.length ≤ 9223372036854775807) :
    Calls Try.prog 6 #[.agg #[c0, c1, c2]] w (HeavyOut4 S L bs w) := by
  have hF := box3_facts w c0 c1 c2 26
  have hT := hL.below hF.1
  obtain ⟨A0, k0, rfl⟩ := hS.len
  obtain ⟨A2, k2, rfl, hb2⟩ := hB
  obtain ⟨A1, k1, rfl, h1⟩ := hL
  have hbl := hb2.1
  have HT := Lib.hid hT
  clear hT h1 hb2 hS
  go_enter Try.func6, Try.ntmps6
  obtain ⟨hbel, hc0, hc1, hc2, hsz⟩ := hF
  go_wp2_with (go_at_call 22; refine (texts_any _ L _ HT.out).mono ?_; rintro e w' ⟨r, hr, hr2, rfl, rfl⟩)
  all_goals
    go_ret
    refine ⟨_, ?_, rfl, hbel⟩
    intro hb
    simp at hb
    try omega

theorem below_cellj {W W' : World} {b j : Nat} {v : Value} (hc : W.cell? ⟨b, j, none⟩ = some v) (hs : W.heap.size = b + 1) (h : Below W.heap.size W W') : W'.cell? ⟨b, j, none⟩ = some v := by
  rw [h.cell (p := ⟨b, j, none⟩) (by show b < _; rw [hs]; omega)]; exact hc

end Go.Proofs.Ytijcmdcjjcemfaa

/- What comes in to the laws of matrices: matrices (or not), numbers, texts. -/

namespace Go.Proofs.Ytijcmdcjjcemfaa
open Go.ChangeShapes Go.WideShapes Go.ChangeAt Go.RowKit Go.Joins
open Go.Deep (open_slice open_slice1 oneCellFields hone_of)
set_option linter.unusedVariables false
set_option linter.unusedSimpArgs false

/-- A slice value of bytes that fits its room. -/
def RoomV (v : Value) (ns : List Nat) : Prop := ∃ A k, v = .slice A ns.length k ∧ ns.length ≤ k ∧ k ≤ 9223372036854775807
theorem bytesV_open {H : Type} {enc : TypeId × Value → H} {P : Program} {w : World} {base : Nat} {spare : Nat → Bool} {held : Bool} {t e : TypeId} {fuel : Nat} {v : Value} {x : DataW H × List MemPlace}
    (ht : P.underlying t = some (.slice e)) (he : P.underlying e = some (.int .u8)) (hc : P.cellsOf e = 1)
    (h : DataW.trod enc P w base spare held fuel t [v] = some x) : ∃ ns, BytesV w v ns ∧ RoomV v ns := by
  rcases open_slice1 ht hc h with ⟨hcs, _⟩ | ⟨a, len, cap, m, n, V, D, Pl, hcs, hb, hl, hm, hmm, hx, hi⟩
  · simp only [List.cons.injEq, and_true] at hcs
    subst hcs
    exact ⟨[], ⟨RowIs.nil _ _ _ _, by simp⟩, _, _, rfl, by simp, by omega⟩
  · simp only [List.cons.injEq, and_true] at hcs
    subst hcs
    have hlm : len ≤ m := by rw [hmm]; split <;> omega
    obtain ⟨ns, hnl, hns⟩ := pick_list (m := len) 0 (p := fun i (b : Nat) => b < 256 ∧ w.cell? (a.add i) = some (.int .u8 (b : Int))) (fun i hi' => by
      obtain ⟨h1, h2⟩ := hi i (by omega)
      obtain ⟨z, hz, _, hwf⟩ := DataW.trod_int he h2
      simp only [List.cons.injEq, and_true] at hz
      have hz2 : 0 ≤ z ∧ z ≤ 255 := by simpa [Lit.wf, IntKind.min, IntKind.max, IntKind.signed, IntKind.bits] using hwf
      exact ⟨z.toNat, by omega, by rw [h1, hz, Int.toNat_of_nonneg hz2.1]⟩)
    unfold maxLen at hm
    refine ⟨ns, ⟨⟨by simp, some a, cap, by rw [hnl], fun h0 => ?_⟩, ?_⟩, some a, cap, by rw [hnl], by omega, by omega⟩
    · obtain ⟨b, off, spot⟩ := a
      have hspot : spot = none := by simpa [Addr.add] using World.cell?_spot (hns 0 (by omega)).2
      subst hspot
      simp only [Go.WideShapes.add_plain] at hns
      refine ⟨b, off, rfl, cell_block (hns 0 (by omega)).2, fun j u hu => ?_⟩
      have hj : j < ns.length := by simpa using (List.getElem?_eq_some_iff.1 hu).1
      rw [(hns j (by omega)).2, ← hu]
      simp [List.getD, hj]
    · intro y hy
      obtain ⟨i, hi', rfl⟩ := List.getElem_of_mem hy
      have := (hns i (by omega)).1
      rwa [← List.getElem_eq_getD (h := hi')] at this

/-- Three cells of what a matrix is. -/
abbrev M3 := Int × Int × Value
def MatsIn (w : World) (v : Value) (l : List M3) : Prop :=
  ∃ A c, v = .slice A l.length c ∧ l.length ≤ 9223372036854775807 ∧ ∀ k, k < l.length → ∃ b o, A = some ⟨b, o, none⟩ ∧ b < w.heap.size ∧
    w.cell? ⟨b, o + k * 3, none⟩ = some (.int .i64 (l.getD k (0, 0, .slice none 0 0)).1) ∧ w.cell? ⟨b, o + k * 3 + 1, none⟩ = some (.int .i64 (l.getD k (0, 0, .slice none 0 0)).2.1) ∧ w.cell? ⟨b, o + k * 3 + 2, none⟩ = some (l.getD k (0, 0, .slice none 0 0)).2.2 ∧
    (∃ ns, BytesV w (l.getD k (0, 0, .slice none 0 0)).2.2 ns ∧ RoomV (l.getD k (0, 0, .slice none 0 0)).2.2 ns) ∧ ((Lit.int .i64 (l.getD k (0, 0, .slice none 0 0)).1).wf = true ∧ (Lit.int .i64 (l.getD k (0, 0, .slice none 0 0)).2.1).wf = true)
theorem MatsIn.below {w w' : World} {v : Value} {l : List M3} (h : MatsIn w v l) (hb : Below w.heap.size w w') : MatsIn w' v l := by
  obtain ⟨A, c, e, hl, h⟩ := h
  refine ⟨A, c, e, hl, fun k hk => ?_⟩
  obtain ⟨b, o, e, hlt, c0, c1, c2, ⟨ns, h1, h2⟩, h3⟩ := h k hk
  exact ⟨b, o, e, Nat.lt_of_lt_of_le hlt hb.size, below_celllt c0 hlt hb, below_celllt c1 hlt hb, below_celllt c2 hlt hb, ⟨ns, h1.below hb, h2⟩, h3⟩
theorem matsIn_open {H : Type} {enc : TypeId × Value → H} {P : Program} {w : World} {base : Nat} {spare : Nat → Bool} {held : Bool} {t e eb : TypeId} {f0 f1 f2 : Field} {fuel : Nat} {v : Value} {x : DataW H × List MemPlace} (ht : P.underlying t = some (.slice e)) (he : P.underlying e = some (.struct #[f0, f1, f2])) (hC : P.cellsOf e = 3)
    (u0 : P.underlying f0.type = some (.int .i64)) (u1 : P.underlying f1.type = some (.int .i64)) (u2 : P.underlying f2.type = some (.slice eb)) (ub : P.underlying eb = some (.int .u8)) (cb : P.cellsOf eb = 1)
    (o0 : f0.offset = 0) (o1 : f1.offset = 1) (o2 : f2.offset = 2) (c0 : P.cellsOf f0.type = 1) (c1 : P.cellsOf f1.type = 1) (c2 : P.cellsOf f2.type = 1)
    (h : DataW.trod enc P w base spare held fuel t [v] = some x) : ∃ l, MatsIn w v l := by
  rcases open_slice ht h with ⟨hcs, _⟩ | ⟨a, len, cap, m, n, D, Pl, hcs, hb, hl, hm, hmm, hx, hi⟩
  · simp only [List.cons.injEq, and_true] at hcs
    subst hcs
    exact ⟨[], none, 0, rfl, by simp, fun k hk => by simp at hk⟩
  · simp only [List.cons.injEq, and_true] at hcs
    subst hcs
    have hlm : len ≤ m := by rw [hmm]; split <;> omega
    rw [hC] at hi
    have hcell : ∀ i, i < len → ∃ s : M3, (w.cell? (a.add (i * 3)) = some (.int .i64 s.1) ∧ w.cell? (a.add (i * 3 + 1)) = some (.int .i64 s.2.1) ∧ w.cell? (a.add (i * 3 + 2)) = some s.2.2) ∧
        (∃ ns, BytesV w s.2.2 ns ∧ RoomV s.2.2 ns) ∧ (Lit.int .i64 s.1).wf = true ∧ (Lit.int .i64 s.2.1).wf = true := by
      intro i hi'
      obtain ⟨cs', hc, ht'⟩ := hi i (by omega)
      obtain ⟨_, hcl, hat⟩ := World.cells?_some hc
      obtain ⟨ys, n', _, _, hlen, hyl, hf⟩ := DataW.trod_struct he ht'
      match cs', hcl with
      | [w0, w1, w2], _ =>
        have g0 := hf 0 f0 rfl
        have g1 := hf 1 f1 rfl
        have g2 := hf 2 f2 rfl
        rw [o0, c0] at g0; rw [o1, c1] at g1; rw [o2, c2] at g2
        have l0 : ys[0]? = some (ys[0]'(by rw [hyl]; simp)) := List.getElem?_eq_getElem _
        have l1 : ys[1]? = some (ys[1]'(by rw [hyl]; simp)) := List.getElem?_eq_getElem _
        have l2 : ys[2]? = some (ys[2]'(by rw [hyl]; simp)) := List.getElem?_eq_getElem _
        rw [l0] at g0; rw [l1] at g1; rw [l2] at g2
        obtain ⟨z0, e0, _, b0⟩ := DataW.trod_int u0 g0
        obtain ⟨z1, e1, _, b1⟩ := DataW.trod_int u1 g1
        have g3 := bytesV_open u2 ub cb (show DataW.trod enc P w base spare held n' f2.type [w2] = some _ from g2)
        simp at e0 e1
        subst e0 e1
        have k0 := hat 0 (by omega); have k1 := hat 1 (by omega); have k2 := hat 2 (by omega)
        rw [Go.Deep.add_add] at k0 k1 k2
        exact ⟨(z0, z1, w2), ⟨by simpa using k0, by simpa using k1, by simpa using k2⟩, g3, b0, b1⟩
    obtain ⟨l, hll, hls⟩ := pick_list (m := len) ((0, 0, .slice none 0 0) : M3) hcell
    unfold maxLen at hm
    refine ⟨l, some a, cap, by rw [hll], by omega, fun k hk => ?_⟩
    obtain ⟨b, off, spot⟩ := a
    have hspot : spot = none := by simpa [Addr.add] using World.cell?_spot (hls 0 (by omega)).1.1
    subst hspot
    simp only [Go.WideShapes.add_plain] at hls
    obtain ⟨⟨q0, q1, q2⟩, q3, q4⟩ := hls k (by omega)
    exact ⟨b, off, rfl, cell_block q0, q0, by rw [Nat.add_assoc]; exact q1, by rw [Nat.add_assoc]; exact q2, q3, q4⟩
theorem cellsMat : Try.prog.cellsOf 55 = 3 := by kernel_rfl
theorem cellsMats : Try.prog.cellsOf 114 = 1 := by kernel_rfl
theorem cellsInt3 : Try.prog.cellsOf 3 = 1 := by kernel_rfl
theorem cellsInts3 : Try.prog.cellsOf 34 = 1 := by kernel_rfl
theorem cellsByte3 : Try.prog.cellsOf 5 = 1 := by kernel_rfl
theorem cellsBytes3 : Try.prog.cellsOf 35 = 1 := by kernel_rfl

end Go.Proofs.Ytijcmdcjjcemfaa

/- Copies of bytes and of matrices, that stand while other blocks are written. -/

namespace Go.Proofs.Ytijcmdcjjcemfaa
open Go.ChangeShapes Go.WideShapes Go.ChangeAt Go.RowKit Go.Joins
set_option linter.unusedVariables false
set_option linter.unusedSimpArgs false

theorem RowIs.set {w : World} {X o c n size : Nat} {xs : List Value} (h : RowIs w (.slice (some ⟨X, o, none⟩) n c) n size xs) {d : Addr} (hd : d.block ≠ X) (u : Value) : RowIs (w.setCell d u) (.slice (some ⟨X, o, none⟩) n c) n size xs := by
  obtain ⟨h1, A, c', e, h2⟩ := h
  cases e
  refine ⟨h1, _, _, rfl, fun hn => ?_⟩
  obtain ⟨b, o', e, hlt, hc⟩ := h2 hn
  cases e
  refine ⟨_, _, rfl, by simp only [World.size_setCell]; exact hlt, fun j y hy => ?_⟩
  rw [World.cell?_setCell_other _ _ _ _ (by intro e; apply hd; rw [e])]
  exact hc j y hy
/-- Bytes of one's own: those of block X, if there are any. -/
def OwnB (w : World) (X : Nat) (v : Value) (ns : List Nat) : Prop := BytesV w v ns ∧ RoomV v ns ∧ (ns.length = 0 ∨ (X < w.heap.size ∧ ∃ c, v = .slice (some ⟨X, 0, none⟩) ns.length c))
theorem OwnB.below {w w' : World} {X : Nat} {v : Value} {ns : List Nat} (h : OwnB w X v ns) (hb : Below w.heap.size w w') : OwnB w' X v ns :=
  ⟨h.1.below hb, h.2.1, h.2.2.imp id fun ⟨h1, h2⟩ => ⟨Nat.lt_of_lt_of_le h1 hb.size, h2⟩⟩
theorem OwnB.set {w : World} {X : Nat} {v : Value} {ns : List Nat} (h : OwnB w X v ns) {d : Addr} (hd : ns.length = 0 ∨ d.block ≠ X) (u : Value) : OwnB (w.setCell d u) X v ns := by
  obtain ⟨h1, h2, h3⟩ := h
  by_cases h0 : ns.length = 0
  · obtain ⟨⟨_, A, c, rfl, _⟩, h5⟩ := h1
    refine ⟨⟨⟨by simp, A, c, rfl, fun hn => absurd hn (by omega)⟩, h5⟩, h2, Or.inl h0⟩
  · obtain ⟨hX, c, rfl⟩ := h3.resolve_left h0
    exact ⟨⟨h1.1.set (hd.resolve_left h0) u, h1.2⟩, h2, Or.inr ⟨by simp only [World.size_setCell]; exact hX, c, rfl⟩⟩
/-- A store into a cell that holds no byte leaves bytes as they are. -/
theorem bytesV_apart {w : World} {v y : Value} {ns : List Nat} {d : Addr} (h : BytesV w v ns) (hy : w.cell? d = some y) (hne : ∀ x : Int, y ≠ .int .u8 x) (u : Value) : BytesV (w.setCell d u) v ns := by
  obtain ⟨⟨h1, A, c, e, h2⟩, h3⟩ := h
  refine ⟨⟨h1, A, c, e, fun hn => ?_⟩, h3⟩
  obtain ⟨b, o, eA, hlt, hc⟩ := h2 hn
  refine ⟨b, o, eA, by rw [World.size_setCell]; exact hlt, fun j z hz => ?_⟩
  have hcz := hc j z hz
  rw [World.cell?_setCell_other _ _ _ _ (by
    intro e
    rw [← e, hy] at hcz
    obtain ⟨n, _, rfl⟩ := List.mem_map.1 (List.mem_of_getElem? hz)
    exact hne _ (Option.some.inj hcz))]
  exact hcz
theorem bytesV_three {w : World} {v : Value} {ns : List Nat} {B : Nat} {a b : Int} {A : Option Addr} {n c : Nat} (h : BytesV w v ns) (t : Three w B (.int .i64 a) (.int .i64 b) (.slice A n c)) (u0 u1 u2 : Value) :
    BytesV (((w.setCell ⟨B, 0, none⟩ u0).setCell ⟨B, 1, none⟩ u1).setCell ⟨B, 2, none⟩ u2) v ns := by
  refine bytesV_apart (bytesV_apart (bytesV_apart h t.c0 (by simp) u0) (y := .int .i64 b) ?_ (by simp) u1) (y := .slice A n c) ?_ (by simp) u2
  · rw [World.cell?_setCell_other _ _ _ _ (by simp)]; exact t.c1
  · rw [World.cell?_setCell_other _ _ _ _ (by simp), World.cell?_setCell_other _ _ _ _ (by simp)]; exact t.c2
theorem own_of_row {w : World} {B : Nat} {e : TypeId} {v : Value} {ns : List Nat} (h : w.ownsRow B e 1 v ns.length (u8s ns)) (hb : ∀ x ∈ ns, x < 256) : ∃ X, OwnB w X v ns ∧ (ns.length = 0 ∨ B ≤ X) := by
  have hr := RowIs.of_own h
  by_cases h0 : ns.length = 0
  · refine ⟨0, ⟨⟨hr, hb⟩, ?_, Or.inl h0⟩, Or.inl h0⟩
    obtain ⟨_, ⟨rfl, _⟩ | ⟨g, cap, cur, rfl, _, _, h1, h2, _⟩⟩ := h
    · exact ⟨none, 0, by rw [h0], by omega, by omega⟩
    · exact ⟨_, _, rfl, h1, by unfold maxLen at h2; omega⟩
  · obtain ⟨g, cap, rfl, hB, hlt, h1, h2, _, _⟩ := own_blk h (by omega) hb
    exact ⟨g, ⟨⟨hr, hb⟩, ⟨_, _, rfl, h1, by unfold maxLen at h2; omega⟩, Or.inr ⟨hlt, cap, rfl⟩⟩, Or.inr hB⟩
theorem copyMat_any (R C : Int) (v : Value) (ns : List Nat) (w : World) (h : BytesV w v ns) (hl : ns.length ≤ 100000) :
    Calls Try.prog 64 #[matV R C v] w fun e w' => ∃ r X, e = .returned (matV R C r) ∧ OwnB w' X r ns ∧ (ns.length = 0 ∨ w.heap.size ≤ X) ∧ Below w.heap.size w w' :=
  (copyMatrix_any R C v ns w h hl).mono fun e w' ⟨r, h1, h2, h3⟩ => by
    obtain ⟨X, hX, hB⟩ := own_of_row h2 h.2
    exact ⟨r, X, h1, hX, hB, h3⟩
end Go.Proofs.Ytijcmdcjjcemfaa

/- matrix.Lanes as a call; matrix.Apply, walked. -/

namespace Go.Proofs.Ytijcmdcjjcemfaa
open Go.ChangeShapes Go.WideShapes Go.ChangeAt Go.RowKit Go.Joins
set_option linter.unusedVariables false
set_option linter.unusedSimpArgs false

theorem lanes_any (ra ca n : Nat) (ba oa na ka : Nat) (vl : Value) (ms : List Nat) (l : List ByteArray) (w : World)
    (ha : BytesV w (.slice (some ⟨ba, oa, none⟩) na ka) ms) (hl : Strs6 w vl l) (hla : ms.length = ra * ca) (hll : l.length = ca) (hln : ∀ s ∈ l, s.size = n) (hn : n ≤ 8192)
    (h1 : 1 ≤ ra) (h2 : ra ≤ 16) (h3 : 1 ≤ ca) (h4 : ca ≤ 16) (hka : na ≤ ka) (hka2 : ka ≤ 9223372036854775807) :
    Calls Try.prog 44 #[matV (ra : Int) (ca : Int) (.slice (some ⟨ba, oa, none⟩) na ka), vl] w fun e w' =>
      ∃ r, e = .returned r ∧ w'.ownsRow w.heap.size 9 1 r ra ((applyL ms l ra ca n).map Value.string) ∧ Below w.heap.size w w' :=
  callsIn_wide.1 (lanes_in ra ca n ba oa na ka vl ms l w ha hl hla hll hln hn h1 h2 h3 h4 hka hka2)

theorem mayGo_ok {f : Nat} : ∀ (L : List ByteArray) (e : Int), (∀ s ∈ L, s.size ≤ 8192 ∧ s.size = f) → mayGo f L e = e
  | [], e, _ => rfl
  | s :: r, e, h => by
    have hs := h s (by simp)
    rw [mayGo, if_neg (by omega), if_pos hs.2]
    exact mayGo_ok r e fun x hx => h x (by simp [hx])
theorem mayN_ok {L : List ByteArray} {n : Nat} (h0 : 0 < L.length) (h : ∀ s ∈ L, s.size = n) (hn : n ≤ 8192) : mayN L = 0 := by
  have e : (L.getD 0 ByteArray.empty).size = n := by
    rw [← List.getElem_eq_getD (h := h0)]; exact h _ (List.getElem_mem _)
  exact mayGo_ok L 0 fun s hs => by rw [h s hs, e]; exact ⟨hn, rfl⟩
theorem mayGo_all' (f : Nat) : ∀ (L : List ByteArray) (e : Int), mayGo f L e = 0 → e = 0 ∧ ∀ s ∈ L, s.size ≤ 8192 ∧ s.size = f
  | [], e, h => ⟨h, fun s hs => absurd hs (by simp)⟩
  | s :: r, e, h => by
    rw [mayGo] at h
    split at h
    · omega
    · obtain ⟨h1, h2⟩ := mayGo_all' f r _ h
      split at h1
      · refine ⟨h1, fun x hx => ?_⟩
        rcases List.mem_cons.1 hx with rfl | hx
        · exact ⟨by omega, by assumption⟩
        · exact h2 x hx
      · omega
theorem mayN_all {L : List ByteArray} (h : mayN L = 0) : ∀ s ∈ L, s.size = (L.getD 0 ByteArray.empty).size ∧ s.size ≤ 8192 := fun s hs =>
  ⟨((mayGo_all' _ L 0 h).2 s hs).2, ((mayGo_all' _ L 0 h).2 s hs).1⟩

end Go.Proofs.Ytijcmdcjjcemfaa

/- matrix.Mul where it is refused, walked. -/

namespace Go.Proofs.Ytijcmdcjjcemfaa
open Go.ChangeShapes Go.WideShapes Go.ChangeAt Go.RowKit Go.Joins
set_option linter.unusedVariables false
set_option linter.unusedSimpArgs false

end Go.Proofs.Ytijcmdcjjcemfaa

/- Answers that are written over: texts (silolaw0.Strings), walked. -/

namespace Go.Proofs.Ytijcmdcjjcemfaa
open Go.ChangeShapes Go.WideShapes Go.ChangeAt Go.RowKit Go.Joins
set_option linter.unusedVariables false
set_option linter.unusedSimpArgs false

/-- A block whose first n cells hold texts, and may be written. -/
def StrBlk (w : World) (B n : Nat) : Prop := ∀ i, i < n → ∃ s : ByteArray, w.cell? ⟨B, i, none⟩ = some (.string s) ∧ w.frozen? ⟨B, i, none⟩ = false
theorem StrBlk.next {w : World} {B n : Nat} (h : StrBlk w B n) (k : Nat) (s : ByteArray) : StrBlk (w.setCell ⟨B, k, none⟩ (.string s)) B n := by
  intro i hi
  obtain ⟨t, h1, h2⟩ := h i hi
  by_cases e : k = i
  · subst e
    exact ⟨s, World.cell?_setCell_same' _ _ _ (by rw [h1]; rfl), by rw [World.frozen?_setCell]; exact h2⟩
  · exact ⟨t, by rw [World.cell?_setCell_other _ _ _ _ (by simp [e])]; exact h1, by rw [World.frozen?_setCell]; exact h2⟩
theorem StrBlk.below {w w' : World} {B n : Nat} (h : StrBlk w B n) (hb : Below w.heap.size w w') : StrBlk w' B n := by
  intro i hi
  obtain ⟨t, h1, h2⟩ := h i hi
  have hlt : B < w.heap.size := cell_block h1
  refine ⟨t, by rw [hb.cell (p := ⟨B, i, none⟩) hlt]; exact h1, ?_⟩
  have e := hb.block B hlt
  unfold World.frozen? at *
  rw [e]; exact h2
theorem strBlk_new (w : World) (L : List ByteArray) (T : TypeId) : StrBlk (w.alloc (.cells (L.map Value.string).toArray T)) w.heap.size L.length := by
  intro i hi
  refine ⟨L[i], ?_, ?_⟩
  · rw [cell_of_row _ _ _ _ _ _ (heap_alloc_new w _)]
    simp [hi]
  · unfold World.frozen?
    rw [heap_alloc_new]
    simp
/-- A slice of texts that may be written over, none of them in a block below B. -/
def Spoils (B : Nat) (w : World) (v : Value) : Prop := ∃ A n c, v = .slice A n c ∧ (0 < n → ∃ b, A = some ⟨b, 0, none⟩ ∧ B ≤ b ∧ StrBlk w b n)
theorem Spoils.below {B : Nat} {w w' : World} {v : Value} (h : Spoils B w v) (hb : Below w.heap.size w w') : Spoils B w' v := by
  obtain ⟨A, n, c, rfl, h2⟩ := h
  refine ⟨A, n, c, rfl, fun hn => ?_⟩
  obtain ⟨b, e, hB, hs⟩ := h2 hn
  exact ⟨b, e, hB, hs.below hb⟩

/-- What was appended to may be written over. -/
theorem Spoils.of_own {w : World} {B n : Nat} {e : TypeId} {v : Value} {L : List ByteArray} (h : w.ownsRow B e 1 v n (L.map Value.string)) : Spoils B w v := by
  have hc := h
  obtain ⟨hl, ⟨rfl, rfl⟩ | ⟨g, cap, cur, rfl, hB, hh, h1, h2, h3, h4⟩⟩ := h
  · exact ⟨none, 0, 0, rfl, fun h => absurd h (by omega)⟩
  · refine ⟨_, _, _, rfl, fun _ => ⟨g, rfl, hB, fun i hi => ?_⟩⟩
    have hil : i < L.length := by rw [List.length_map] at hl; omega
    refine ⟨L[i], ?_, ?_⟩
    · have := hc.cells (g := g) rfl i (.string L[i]) (by simp [hil])
      rw [Go.WideShapes.add_plain, Nat.zero_add] at this
      exact this
    · have hi2 : i < cur.size := by rw [h3]; omega
      simp [World.frozen?, hh, hi2]
theorem Spoils.nil (B : Nat) (w : World) (A : Option Addr) (c : Nat) : Spoils B w (.slice A 0 c) := ⟨A, 0, c, rfl, fun h => absurd h (by omega)⟩
end Go.Proofs.Ytijcmdcjjcemfaa

/- matrix.Mul and matrix.Apply, whatever comes in, as one contract each. -/

namespace Go.Proofs.Ytijcmdcjjcemfaa
open Go.ChangeShapes Go.WideShapes Go.ChangeAt Go.RowKit Go.Joins
set_option linter.unusedVariables false
set_option linter.unusedSimpArgs false

/-- Whether two matrices may be multiplied; what comes of it. -/
def mulK (Ra Ca Rb Cb : Int) (na nb : Nat) : Bool := mayM Ra Ca na && (mayM Rb Cb nb && decide (Ca = Rb))
def mulE (k : Bool) : Int := if k then 0 else 1
def mulR (k : Bool) (R : Int) : Int := if k then R else 0
def mulX (k : Bool) (ms ns : List Nat) (Ra Ca Cb : Int) : List Nat := if k then timesL ms ns Ra.toNat Ca.toNat Cb.toNat else []
theorem mulK_yes {Ra Ca Rb Cb : Int} {na nb : Nat} (h : mulK Ra Ca Rb Cb na nb = true) : mayM Ra Ca na = true ∧ mayM Rb Cb nb = true ∧ Ca = Rb := by
  unfold mulK at h
  simp only [Bool.and_eq_true, decide_eq_true_eq] at h
  exact h
theorem bytesV_nil (w : World) (A : Option Addr) (c : Nat) : BytesV w (.slice A 0 c) [] := ⟨⟨by simp, A, c, rfl, fun h => absurd h (by simp)⟩, by simp⟩

theorem mulX_len (k : Bool) {ms ns : List Nat} {Ra Ca Cb : Int} (hk : k = mulK Ra Ca Ca Cb ms.length ns.length) : (mulX k ms ns Ra Ca Cb).length ≤ 256 := by
  cases k with
  | false => simp [mulX]
  | true =>
    obtain ⟨m1, m2, _⟩ := mulK_yes hk.symm
    obtain ⟨r, cc, rfl, rfl, _, r16, _, _, _⟩ := mayM_yes m1
    obtain ⟨r', cb, _, rfl, _, _, _, b16, _⟩ := mayM_yes m2
    have := Nat.mul_le_mul r16 b16
    simp only [mulX, if_true, Int.toNat_natCast, timesL_length]
    omega
/-- Whether a matrix may be applied to so many lanes; what comes of it. -/
def appK (R C : Int) (nm n : Nat) : Bool := mayM R C nm && decide ((n : Int) = C)
def appE (k : Bool) (L : List ByteArray) : Int := if k then mayN L else 1
def appX (k : Bool) (ms : List Nat) (R : Int) (L : List ByteArray) : List ByteArray := if k && mayN L == 0 then applyL ms L R.toNat L.length (L.getD 0 ByteArray.empty).size else []
theorem appX_len (k : Bool) {ms : List Nat} {R C : Int} {L : List ByteArray} (hk : k = appK R C ms.length L.length) : (appX k ms R L).length ≤ 16 := by
  unfold appX
  split
  · rename_i h
    cases k with
    | false => simp at h
    | true =>
      have h2 := hk.symm
      unfold appK at h2
      simp only [Bool.and_eq_true] at h2
      obtain ⟨r, cc, rfl, _, _, r16, _⟩ := mayM_yes h2.1
      rw [applyL_length]
      omega
  · simp
theorem strs6_own {w : World} {B n : Nat} {e : TypeId} {v : Value} {L : List ByteArray} (h : w.ownsRow B e 1 v n (L.map Value.string)) : Strs6 w v L := by
  have h1 := RowIs.of_own h
  have h2 : n = L.length := by have := h1.1; simp at this; omega
  rw [h2] at h1
  exact h1
theorem strs6_nil (w : World) (A : Option Addr) (c : Nat) : Strs6 w (.slice A 0 c) [] := ⟨by simp, A, c, rfl, fun h => absurd h (by simp)⟩

end Go.Proofs.Ytijcmdcjjcemfaa

/- code.first, code.Check, field.Exp and field.Pow, walked. -/

namespace Go.Proofs.Ytijcmdcjjcemfaa
open Go.ChangeShapes Go.WideShapes Go.ChangeAt Go.RowKit Go.Joins
set_option linter.unusedVariables false
set_option linter.unusedSimpArgs false

set_option maxRecDepth 100000 in
theorem fieldPow_any (a n : Nat) (w : World) (ha : a < 256) (hn : n ≤ 9223372036854775807) :
    Calls Try.prog 62 #[.int .u8 (a : Int), .int .i64 (n : Int)] w fun e w' => e = .returned (.tuple #[.int .u8 ((Gf.pow a n : Nat) : Int), .int .i64 0]) ∧ w = w' := by
  have h0 : decide ((n : Int) < 0) = false := by simp
  have HC := Lib.hid (raised_any (a : Int) (n : Int) w (by omega) (by omega) (by omega) (by omega))
  go_enter Try.func62, Try.ntmps62
  go_wp2_with fail
  refine HC.out.mono ?_
  rintro e w1 ⟨rfl, rfl⟩
  rw [gp_nat]
  go_wp2_with fail
  go_ret2
  exact ⟨rfl, rfl⟩

set_option maxRecDepth 100000 in
theorem exp_any (n : Nat) (w : World) (hn : n ≤ 9223372036854775807) :
    Calls Try.prog 61 #[.int .i64 (n : Int)] w fun e w' => e = .returned (.tuple #[.int .u8 ((Gf.pow 2 n : Nat) : Int), .int .i64 0]) ∧ w = w' := by
  have HC := Lib.hid (fieldPow_any 2 n w (by omega) hn)
  go_enter Try.func61, Try.ntmps61
  go_wp2_with fail
  refine HC.out.mono ?_
  rintro e w1 ⟨rfl, rfl⟩
  go_wp2_with fail
  go_ret2
  exact ⟨rfl, rfl⟩

/-- The numbers of the first rows. -/
def firstL (n : Nat) : List Int := (List.range n).map Int.ofNat
theorem firstL_len (n : Nat) : (firstL n).length = n := by simp [firstL]
theorem firstL_succ (n : Nat) : firstL (n + 1) = firstL n ++ [(n : Int)] := by simp [firstL, List.range_succ]
theorem firstL_mem {n : Nat} {z : Int} (h : z ∈ firstL n) : 0 ≤ z ∧ z < (n : Int) := by
  obtain ⟨a, h1, rfl⟩ := List.mem_map.1 h
  have := List.mem_range.1 h1
  constructor
  · exact Int.natCast_nonneg a
  · exact Int.ofNat_lt.2 this
/-- Numbers, as they lie. -/
def i64s (l : List Int) : List Value := l.map (Value.int .i64)
theorem numsIn_own {w : World} {B : Nat} {e : TypeId} {v : Value} {l : List Int} (h : w.ownsRow B e 1 v l.length (i64s l)) (hb : ∀ n ∈ l, -9223372036854775808 ≤ n ∧ n ≤ 9223372036854775807) (hl : l.length ≤ 9223372036854775807) : NumsIn w v l := by
  obtain ⟨hlen, A, c, rfl, hr⟩ := RowIs.of_own h
  refine ⟨hb, ?_⟩
  by_cases h0 : l.length = 0
  · left
    exact ⟨List.eq_nil_of_length_eq_zero h0, A, c, by rw [h0]⟩
  · right
    obtain ⟨b, o, rfl, hbl, hcell⟩ := hr (by omega)
    refine ⟨b, o, c, rfl, by intro e; rw [e] at h0; exact h0 rfl, hl, hbl, fun i hi => ?_⟩
    refine hcell i _ ?_
    simp [i64s, List.getD, hi]

theorem infoI64 : (Try.prog.info? 3).map (fun i => (i.zero, i.size, i.bytes)) = some (some (.int .i64 0), 1, 8) := by kernel_rfl
theorem i64s_snoc (l : List Int) (z : Int) : i64s (l ++ [z]) = i64s l ++ [.int .i64 z] := by simp [i64s]

set_option maxRecDepth 100000 in
set_option maxHeartbeats 1000000 in
theorem first_any (n : Nat) (w : World) (hn : n ≤ 1000) :
    Calls Try.prog 63 #[.int .i64 (n : Int)] w fun e w' => ∃ r, e = .returned r ∧ w'.ownsRow w.heap.size 3 1 r n (i64s (firstL n)) ∧ Below w.heap.size w w' := by
  obtain ⟨i0, hi, hz0, hz1, hz2⟩ := info_parts infoI64
  go_enter Try.func63, Try.ntmps63
  go_wp2_with fail
  go_loopw [2, 5] (fun l i wr => ∃ k : Nat, i = .int .i64 k ∧ k ≤ n ∧ wr.ownsRow w.heap.size 3 1 l k (i64s (firstL k)) ∧ Below w.heap.size w wr) (fun _ i _ => n - (intOf i).toNat)
  case atStart => exact ⟨0, rfl, by omega, World.ownsRow_nil _ _ _ _, Below.refl _ _⟩
  case round =>
    obtain ⟨k, rfl, hk, hown, hwr⟩ := hrel
    by_cases hlt : k < n
    · have hd : decide ((k : Int) < (n : Int)) = true := by simp; omega
      have HT := Lib.hid (firstL_succ k)
      go_wp2_with (first | (at_builtin; refine wpList_append_own _ rfl _ _ 34 rfl w.heap.size 3 i0 (.int .i64 0) 1 8 Try.underlying34 hi hz0 hz1 hz2 rfl (by decide) _ _ _ rfl (hown.alloc _) ⟨wr.heap.size, 0, none⟩ 1 1 [.int .i64 (k : Int)] rfl rfl ?c1 ?c2 ?c3 ?c4 ?c5 ?_) | go_in)
      case c1 => exact cell_one_new' _ _ _
      case c2 => intro u hu; simp at hu; subst hu; rfl
      case c3 => unfold maxLen; omega
      case c4 => omega
      case c5 => have := hwr.size; simp; omega
      all_goals
        intro v' w1 hown' hgrow _
        have hbx := append_below hwr hown hgrow
        clear hown hgrow hwr
        go_wp2_with fail
        go_roundw
        case rel => exact ⟨k + 1, by go_num, by omega, by rw [HT.out, i64s_snoc]; exact hown', hbx⟩
        case measure => simp [intOf]; omega
    · have hke : k = n := by omega
      have hd : decide ((k : Int) < (n : Int)) = false := by simp; omega
      rw [hke] at hown
      clear hke
      go_wp2_with fail
      all_goals
        go_ret
        exact ⟨_, rfl, hown, hwr⟩
end Go.Proofs.Ytijcmdcjjcemfaa
