/- What comes in to the laws of matrices: matrices (or not), numbers, texts. -/
import Derived.Test.YtibinkppbdeofaaOpen
import Derived.Test.YtibinkppbdeofaaSpoil
import Derived.Test.YtibinkppbdeofaaMatD
namespace Go.Proofs.Ytibinkppbdeofaa
open Go.ChangeShapes Go.WideShapes Go.ChangeAt Go.RowKit Go.Joins
open Go.Deep (open_slice open_slice1 oneCellFields hone_of)
set_option linter.unusedVariables false
set_option linter.unusedSimpArgs false

/-- A slice value of bytes that fits its room. -/
def RoomV (v : Value) (ns : List Nat) : Prop := ∃ A k, v = .slice A ns.length k ∧ ns.length ≤ k ∧ k ≤ 9223372036854775807
theorem bytesV_open {H : Type} {enc : TypeId × Value → H} {P : Program} {w : World} {base : Nat} {spare : Nat → Bool} {held : Bool} {t e : TypeId} {fuel : Nat} {v : Value} {x : DataW H × List MemPlace}
    (ht : P.underlying t = some (.slice e)) (he : P.underlying e = some (.int .u8)) (hc : P.cellsOf e = 1)
    (h : DataW.trod enc P w base spare held fuel t [v] = some x) : ∃ ns, BytesV w v ns ∧ RoomV v ns := by
  rcases open_slice1 ht hc h with ⟨hcs, _⟩ | ⟨a, len, cap, m, n, V, D, Pl, hcs, hb, hl, hm, hmm, hx, hi⟩
  · simp only [List.cons.injEq, and_true] at hcs
    subst hcs
    exact ⟨[], ⟨RowIs.nil _ _ _ _, by simp⟩, _, _, rfl, by simp, by omega⟩
  · simp only [List.cons.injEq, and_true] at hcs
    subst hcs
    have hlm : len ≤ m := by rw [hmm]; split <;> omega
    obtain ⟨ns, hnl, hns⟩ := pick_list (m := len) 0 (p := fun i (b : Nat) => b < 256 ∧ w.cell? (a.add i) = some (.int .u8 (b : Int))) (fun i hi' => by
      obtain ⟨h1, h2⟩ := hi i (by omega)
      obtain ⟨z, hz, _, hwf⟩ := DataW.trod_int he h2
      simp only [List.cons.injEq, and_true] at hz
      have hz2 : 0 ≤ z ∧ z ≤ 255 := by simpa [Lit.wf, IntKind.min, IntKind.max, IntKind.signed, IntKind.bits] using hwf
      exact ⟨z.toNat, by omega, by rw [h1, hz, Int.toNat_of_nonneg hz2.1]⟩)
    unfold maxLen at hm
    refine ⟨ns, ⟨⟨by simp, some a, cap, by rw [hnl], fun h0 => ?_⟩, ?_⟩, some a, cap, by rw [hnl], by omega, by omega⟩
    · obtain ⟨b, off, spot⟩ := a
      have hspot : spot = none := by simpa [Addr.add] using World.cell?_spot (hns 0 (by omega)).2
      subst hspot
      simp only [Go.WideShapes.add_plain] at hns
      refine ⟨b, off, rfl, cell_block (hns 0 (by omega)).2, fun j u hu => ?_⟩
      have hj : j < ns.length := by simpa using (List.getElem?_eq_some_iff.1 hu).1
      rw [(hns j (by omega)).2, ← hu]
      simp [List.getD, hj]
    · intro y hy
      obtain ⟨i, hi', rfl⟩ := List.getElem_of_mem hy
      have := (hns i (by omega)).1
      rwa [← List.getElem_eq_getD (h := hi')] at this

/-- Three cells of what a matrix is. -/
abbrev M3 := Int × Int × Value
def MatsIn (w : World) (v : Value) (l : List M3) : Prop :=
  ∃ A c, v = .slice A l.length c ∧ l.length ≤ 9223372036854775807 ∧ ∀ k, k < l.length → ∃ b o, A = some ⟨b, o, none⟩ ∧ b < w.heap.size ∧
    w.cell? ⟨b, o + k * 3, none⟩ = some (.int .i64 (l.getD k (0, 0, .slice none 0 0)).1) ∧ w.cell? ⟨b, o + k * 3 + 1, none⟩ = some (.int .i64 (l.getD k (0, 0, .slice none 0 0)).2.1) ∧ w.cell? ⟨b, o + k * 3 + 2, none⟩ = some (l.getD k (0, 0, .slice none 0 0)).2.2 ∧
    (∃ ns, BytesV w (l.getD k (0, 0, .slice none 0 0)).2.2 ns ∧ RoomV (l.getD k (0, 0, .slice none 0 0)).2.2 ns) ∧ ((Lit.int .i64 (l.getD k (0, 0, .slice none 0 0)).1).wf = true ∧ (Lit.int .i64 (l.getD k (0, 0, .slice none 0 0)).2.1).wf = true)
theorem MatsIn.below {w w' : World} {v : Value} {l : List M3} (h : MatsIn w v l) (hb : Below w.heap.size w w') : MatsIn w' v l := by
  obtain ⟨A, c, e, hl, h⟩ := h
  refine ⟨A, c, e, hl, fun k hk => ?_⟩
  obtain ⟨b, o, e, hlt, c0, c1, c2, ⟨ns, h1, h2⟩, h3⟩ := h k hk
  exact ⟨b, o, e, Nat.lt_of_lt_of_le hlt hb.size, below_celllt c0 hlt hb, below_celllt c1 hlt hb, below_celllt c2 hlt hb, ⟨ns, h1.below hb, h2⟩, h3⟩
theorem matsIn_open {H : Type} {enc : TypeId × Value → H} {P : Program} {w : World} {base : Nat} {spare : Nat → Bool} {held : Bool} {t e eb : TypeId} {f0 f1 f2 : Field} {fuel : Nat} {v : Value} {x : DataW H × List MemPlace} (ht : P.underlying t = some (.slice e)) (he : P.underlying e = some (.struct #[f0, f1, f2])) (hC : P.cellsOf e = 3)
    (u0 : P.underlying f0.type = some (.int .i64)) (u1 : P.underlying f1.type = some (.int .i64)) (u2 : P.underlying f2.type = some (.slice eb)) (ub : P.underlying eb = some (.int .u8)) (cb : P.cellsOf eb = 1)
    (o0 : f0.offset = 0) (o1 : f1.offset = 1) (o2 : f2.offset = 2) (c0 : P.cellsOf f0.type = 1) (c1 : P.cellsOf f1.type = 1) (c2 : P.cellsOf f2.type = 1)
    (h : DataW.trod enc P w base spare held fuel t [v] = some x) : ∃ l, MatsIn w v l := by
  rcases open_slice ht h with ⟨hcs, _⟩ | ⟨a, len, cap, m, n, D, Pl, hcs, hb, hl, hm, hmm, hx, hi⟩
  · simp only [List.cons.injEq, and_true] at hcs
    subst hcs
    exact ⟨[], none, 0, rfl, by simp, fun k hk => by simp at hk⟩
  · simp only [List.cons.injEq, and_true] at hcs
    subst hcs
    have hlm : len ≤ m := by rw [hmm]; split <;> omega
    rw [hC] at hi
    have hcell : ∀ i, i < len → ∃ s : M3, (w.cell? (a.add (i * 3)) = some (.int .i64 s.1) ∧ w.cell? (a.add (i * 3 + 1)) = some (.int .i64 s.2.1) ∧ w.cell? (a.add (i * 3 + 2)) = some s.2.2) ∧
        (∃ ns, BytesV w s.2.2 ns ∧ RoomV s.2.2 ns) ∧ (Lit.int .i64 s.1).wf = true ∧ (Lit.int .i64 s.2.1).wf = true := by
      intro i hi'
      obtain ⟨cs', hc, ht'⟩ := hi i (by omega)
      obtain ⟨_, hcl, hat⟩ := World.cells?_some hc
      obtain ⟨ys, n', _, _, hlen, hyl, hf⟩ := DataW.trod_struct he ht'
      match cs', hcl with
      | [w0, w1, w2], _ =>
        have g0 := hf 0 f0 rfl
        have g1 := hf 1 f1 rfl
        have g2 := hf 2 f2 rfl
        rw [o0, c0] at g0; rw [o1, c1] at g1; rw [o2, c2] at g2
        have l0 : ys[0]? = some (ys[0]'(by rw [hyl]; simp)) := List.getElem?_eq_getElem _
        have l1 : ys[1]? = some (ys[1]'(by rw [hyl]; simp)) := List.getElem?_eq_getElem _
        have l2 : ys[2]? = some (ys[2]'(by rw [hyl]; simp)) := List.getElem?_eq_getElem _
        rw [l0] at g0; rw [l1] at g1; rw [l2] at g2
        obtain ⟨z0, e0, _, b0⟩ := DataW.trod_int u0 g0
        obtain ⟨z1, e1, _, b1⟩ := DataW.trod_int u1 g1
        have g3 := bytesV_open u2 ub cb (show DataW.trod enc P w base spare held n' f2.type [w2] = some _ from g2)
        simp at e0 e1
        subst e0 e1
        have k0 := hat 0 (by omega); have k1 := hat 1 (by omega); have k2 := hat 2 (by omega)
        rw [Go.Deep.add_add] at k0 k1 k2
        exact ⟨(z0, z1, w2), ⟨by simpa using k0, by simpa using k1, by simpa using k2⟩, g3, b0, b1⟩
    obtain ⟨l, hll, hls⟩ := pick_list (m := len) ((0, 0, .slice none 0 0) : M3) hcell
    unfold maxLen at hm
    refine ⟨l, some a, cap, by rw [hll], by omega, fun k hk => ?_⟩
    obtain ⟨b, off, spot⟩ := a
    have hspot : spot = none := by simpa [Addr.add] using World.cell?_spot (hls 0 (by omega)).1.1
    subst hspot
    simp only [Go.WideShapes.add_plain] at hls
    obtain ⟨⟨q0, q1, q2⟩, q3, q4⟩ := hls k (by omega)
    exact ⟨b, off, rfl, cell_block q0, q0, by rw [Nat.add_assoc]; exact q1, by rw [Nat.add_assoc]; exact q2, q3, q4⟩
theorem cellsAsk3 : Try.prog.cellsOf 26 = 3 := by kernel_rfl
theorem cellsMat : Try.prog.cellsOf 30 = 3 := by kernel_rfl
theorem cellsMats : Try.prog.cellsOf 22 = 1 := by kernel_rfl
theorem cellsStr : Try.prog.cellsOf 9 = 1 := by kernel_rfl
theorem bytesStr : Try.prog.bytesOf 9 = 16 := by kernel_rfl
theorem cellsInt3 : Try.prog.cellsOf 3 = 1 := by kernel_rfl
theorem cellsInts3 : Try.prog.cellsOf 23 = 1 := by kernel_rfl
theorem cellsByte3 : Try.prog.cellsOf 5 = 1 := by kernel_rfl
theorem cellsBytes3 : Try.prog.cellsOf 28 = 1 := by kernel_rfl
theorem cellsStrs : Try.prog.cellsOf 24 = 1 := by kernel_rfl

theorem ask3_open {H : Type} {enc : TypeId × Value → H} {W : World} {b0 base : Nat} {r : Reach} {spare : Nat → Bool} {held : Bool} {v : Value} {d : DataW H} {p : List MemPlace}
    (hv : Value.okWide Try.prog W r b0 26 v) (h : DataW.Trod enc Try.prog W base spare held 26 v d p) (hf : Fits Try.prog 26 d) :
    ∃ (vM vN vL : Value) (l : List M3) (zs : List Int) (ss : List ByteArray), v = .agg #[vM, vN, vL] ∧ MatsIn W vM l ∧ NumsIn W vN zs ∧ TextsIn W vL ss := by
  obtain ⟨cs, rfl, hsz⟩ := okWide_struct Try.underlying26 hv
  obtain ⟨fuel, h⟩ := h
  obtain ⟨l⟩ := cs
  match l, hsz.trans cellsAsk3 with
  | [x0, x1, x2], _ =>
    obtain ⟨n0, y0, h0, f0⟩ := open_field Try.underlying26 h hf 0 rfl [x0] cellsMats rfl
    obtain ⟨n1, y1, h1, f1⟩ := open_field Try.underlying26 h hf 1 rfl [x1] cellsInts3 rfl
    obtain ⟨n2, y2, h2, f2⟩ := open_field Try.underlying26 h hf 2 rfl [x2] cellsStrs rfl
    obtain ⟨l, hl⟩ := matsIn_open Try.underlying22 Try.underlying30 cellsMat Try.underlying3 Try.underlying3 Try.underlying28 Try.underlying5 cellsByte3 rfl rfl rfl cellsInt3 cellsInt3 cellsBytes3 h0
    obtain ⟨zs, hz⟩ := numsIn_open Try.underlying23 Try.underlying3 cellsInt3 h1
    obtain ⟨ss, hs⟩ := textsIn_open Try.underlying24 Try.underlying9 cellsStr bytesStr h2 f2
    exact ⟨_, _, _, l, zs, ss, rfl, hl, hz, hs⟩
end Go.Proofs.Ytibinkppbdeofaa
