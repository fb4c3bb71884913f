/- What comes in to the laws of matrices: matrices (or not), numbers, texts. -/
import Derived.Test.YtibinkppbdeofaaPk01LawMatrixTells
import Derived.Test.YtibinkppbdeofaaPk05LawMatrixTells
import Derived.RangeFuncFrom
import Derived.RangeFuncMany
import Derived.RangeFuncNested
import Derived.RangeFuncBound
import Derived.RangeFuncCalls
import Derived.RangeFuncLeaves
import Derived.Shelf.Abstract
import Derived.Shelf.RegionOpen
import Derived.OwnWalkIn
import Derived.TacticsInMore
import Derived.LoopNIn
import Derived.LoopIn
namespace Go.Proofs.Ytibinkppbdeofaa
open Go.ChangeShapes Go.WideShapes Go.ChangeAt Go.RowKit Go.Joins
open Go.Deep (open_slice open_slice1 oneCellFields hone_of)
set_option linter.unusedVariables false
set_option linter.unusedSimpArgs false

/-- A slice value of bytes that fits its room. -/
def RoomV (v : Value) (ns : List Nat) : Prop := ∃ A k, v = .slice A ns.length k ∧ ns.length ≤ k ∧ k ≤ 9223372036854775807
theorem bytesV_open {H : Type} {enc : TypeId × Value → H} {P : Program} {w : World} {base : Nat} {spare : Nat → Bool} {held : Bool} {t e : TypeId} {fuel : Nat} {v : Value} {x : DataW H × List MemPlace}
    (ht : P.underlying t = some (.slice e)) (he : P.underlying e = some (.int .u8)) (hc : P.cellsOf e = 1)
    (h : DataW.trod enc P w base spare held fuel t [v] = some x) : ∃ ns, BytesV w v ns ∧ RoomV v ns := by
  rcases open_slice1 ht hc h with ⟨hcs, _⟩ | ⟨a, len, cap, m, n, V, D, Pl, hcs, hb, hl, hm, hmm, hx, hi⟩
  · simp only [List.cons.injEq, and_true] at hcs
    subst hcs
    exact ⟨[], ⟨RowIs.nil _ _ _ _, by simp⟩, _, _, rfl, by simp, by omega⟩
  · simp only [List.cons.injEq, and_true] at hcs
    subst hcs
    have hlm : len ≤ m := by rw [hmm]; split <;> omega
    obtain ⟨ns, hnl, hns⟩ := pick_list (m := len) 0 (p := fun i (b : Nat) => b < 256 ∧ w.cell? (a.add i) = some (.int .u8 (b : Int))) (fun i hi' => by
      obtain ⟨h1, h2⟩ := hi i (by omega)
      obtain ⟨z, hz, _, hwf⟩ := DataW.trod_int he h2
      simp only [List.cons.injEq, and_true] at hz
      have hz2 : 0 ≤ z ∧ z ≤ 255 := by simpa [Lit.wf, IntKind.min, IntKind.max, IntKind.signed, IntKind.bits] using hwf
      exact ⟨z.toNat, by omega, by rw [h1, hz, Int.toNat_of_nonneg hz2.1]⟩)
    unfold maxLen at hm
    refine ⟨ns, ⟨⟨by simp, some a, cap, by rw [hnl], fun h0 => ?_⟩, ?_⟩, some a, cap, by rw [hnl], by omega, by omega⟩
    · obtain ⟨b, off, spot⟩ := a
      have hspot : spot = none := by simpa [Addr.add] using World.cell?_spot (hns 0 (by omega)).2
      subst hspot
      simp only [Go.WideShapes.add_plain] at hns
      refine ⟨b, off, rfl, cell_block (hns 0 (by omega)).2, fun j u hu => ?_⟩
      have hj : j < ns.length := by simpa using (List.getElem?_eq_some_iff.1 hu).1
      rw [(hns j (by omega)).2, ← hu]
      simp [List.getD, hj]
    · intro y hy
      obtain ⟨i, hi', rfl⟩ := List.getElem_of_mem hy
      have := (hns i (by omega)).1
      rwa [← List.getElem_eq_getD (h := hi')] at this

/-- Three cells of what a matrix is. -/
abbrev M3 := Int × Int × Value
def MatsIn (w : World) (v : Value) (l : List M3) : Prop :=
  ∃ A c, v = .slice A l.length c ∧ l.length ≤ 9223372036854775807 ∧ ∀ k, k < l.length → ∃ b o, A = some ⟨b, o, none⟩ ∧ b < w.heap.size ∧
    w.cell? ⟨b, o + k * 3, none⟩ = some (.int .i64 (l.getD k (0, 0, .slice none 0 0)).1) ∧ w.cell? ⟨b, o + k * 3 + 1, none⟩ = some (.int .i64 (l.getD k (0, 0, .slice none 0 0)).2.1) ∧ w.cell? ⟨b, o + k * 3 + 2, none⟩ = some (l.getD k (0, 0, .slice none 0 0)).2.2 ∧
    (∃ ns, BytesV w (l.getD k (0, 0, .slice none 0 0)).2.2 ns ∧ RoomV (l.getD k (0, 0, .slice none 0 0)).2.2 ns) ∧ ((Lit.int .i64 (l.getD k (0, 0, .slice none 0 0)).1).wf = true ∧ (Lit.int .i64 (l.getD k (0, 0, .slice none 0 0)).2.1).wf = true)
theorem MatsIn.below {w w' : World} {v : Value} {l : List M3} (h : MatsIn w v l) (hb : Below w.heap.size w w') : MatsIn w' v l := by
  obtain ⟨A, c, e, hl, h⟩ := h
  refine ⟨A, c, e, hl, fun k hk => ?_⟩
  obtain ⟨b, o, e, hlt, c0, c1, c2, ⟨ns, h1, h2⟩, h3⟩ := h k hk
  exact ⟨b, o, e, Nat.lt_of_lt_of_le hlt hb.size, below_celllt c0 hlt hb, below_celllt c1 hlt hb, below_celllt c2 hlt hb, ⟨ns, h1.below hb, h2⟩, h3⟩
theorem matsIn_open {H : Type} {enc : TypeId × Value → H} {P : Program} {w : World} {base : Nat} {spare : Nat → Bool} {held : Bool} {t e eb : TypeId} {f0 f1 f2 : Field} {fuel : Nat} {v : Value} {x : DataW H × List MemPlace} (ht : P.underlying t = some (.slice e)) (he : P.underlying e = some (.struct #[f0, f1, f2])) (hC : P.cellsOf e = 3)
    (u0 : P.underlying f0.type = some (.int .i64)) (u1 : P.underlying f1.type = some (.int .i64)) (u2 : P.underlying f2.type = some (.slice eb)) (ub : P.underlying eb = some (.int .u8)) (cb : P.cellsOf eb = 1)
    (o0 : f0.offset = 0) (o1 : f1.offset = 1) (o2 : f2.offset = 2) (c0 : P.cellsOf f0.type = 1) (c1 : P.cellsOf f1.type = 1) (c2 : P.cellsOf f2.type = 1)
    (h : DataW.trod enc P w base spare held fuel t [v] = some x) : ∃ l, MatsIn w v l := by
  rcases open_slice ht h with ⟨hcs, _⟩ | ⟨a, len, cap, m, n, D, Pl, hcs, hb, hl, hm, hmm, hx, hi⟩
  · simp only [List.cons.injEq, and_true] at hcs
    subst hcs
    exact ⟨[], none, 0, rfl, by simp, fun k hk => by simp at hk⟩
  · simp only [List.cons.injEq, and_true] at hcs
    subst hcs
    have hlm : len ≤ m := by rw [hmm]; split <;> omega
    rw [hC] at hi
    have hcell : ∀ i, i < len → ∃ s : M3, (w.cell? (a.add (i * 3)) = some (.int .i64 s.1) ∧ w.cell? (a.add (i * 3 + 1)) = some (.int .i64 s.2.1) ∧ w.cell? (a.add (i * 3 + 2)) = some s.2.2) ∧
        (∃ ns, BytesV w s.2.2 ns ∧ RoomV s.2.2 ns) ∧ (Lit.int .i64 s.1).wf = true ∧ (Lit.int .i64 s.2.1).wf = true := by
      intro i hi'
      obtain ⟨cs', hc, ht'⟩ := hi i (by omega)
      obtain ⟨_, hcl, hat⟩ := World.cells?_some hc
      obtain ⟨ys, n', _, _, hlen, hyl, hf⟩ := DataW.trod_struct he ht'
      match cs', hcl with
      | [w0, w1, w2], _ =>
        have g0 := hf 0 f0 rfl
        have g1 := hf 1 f1 rfl
        have g2 := hf 2 f2 rfl
        rw [o0, c0] at g0; rw [o1, c1] at g1; rw [o2, c2] at g2
        have l0 : ys[0]? = some (ys[0]'(by rw [hyl]; simp)) := List.getElem?_eq_getElem _
        have l1 : ys[1]? = some (ys[1]'(by rw [hyl]; simp)) := List.getElem?_eq_getElem _
        have l2 : ys[2]? = some (ys[2]'(by rw [hyl]; simp)) := List.getElem?_eq_getElem _
        rw [l0] at g0; rw [l1] at g1; rw [l2] at g2
        obtain ⟨z0, e0, _, b0⟩ := DataW.trod_int u0 g0
        obtain ⟨z1, e1, _, b1⟩ := DataW.trod_int u1 g1
        have g3 := bytesV_open u2 ub cb (show DataW.trod enc P w base spare held n' f2.type [w2] = some _ from g2)
        simp at e0 e1
        subst e0 e1
        have k0 := hat 0 (by omega); have k1 := hat 1 (by omega); have k2 := hat 2 (by omega)
        rw [Go.Deep.add_add] at k0 k1 k2
        exact ⟨(z0, z1, w2), ⟨by simpa using k0, by simpa using k1, by simpa using k2⟩, g3, b0, b1⟩
    obtain ⟨l, hll, hls⟩ := pick_list (m := len) ((0, 0, .slice none 0 0) : M3) hcell
    unfold maxLen at hm
    refine ⟨l, some a, cap, by rw [hll], by omega, fun k hk => ?_⟩
    obtain ⟨b, off, spot⟩ := a
    have hspot : spot = none := by simpa [Addr.add] using World.cell?_spot (hls 0 (by omega)).1.1
    subst hspot
    simp only [Go.WideShapes.add_plain] at hls
    obtain ⟨⟨q0, q1, q2⟩, q3, q4⟩ := hls k (by omega)
    exact ⟨b, off, rfl, cell_block q0, q0, by rw [Nat.add_assoc]; exact q1, by rw [Nat.add_assoc]; exact q2, q3, q4⟩
theorem cellsAsk3 : Try.prog.cellsOf 26 = 3 := by kernel_rfl
theorem cellsMat : Try.prog.cellsOf 30 = 3 := by kernel_rfl
theorem cellsMats : Try.prog.cellsOf 22 = 1 := by kernel_rfl
theorem cellsStr : Try.prog.cellsOf 9 = 1 := by kernel_rfl
theorem bytesStr : Try.prog.bytesOf 9 = 16 := by kernel_rfl
theorem cellsInt3 : Try.prog.cellsOf 3 = 1 := by kernel_rfl
theorem cellsInts3 : Try.prog.cellsOf 23 = 1 := by kernel_rfl
theorem cellsByte3 : Try.prog.cellsOf 5 = 1 := by kernel_rfl
theorem cellsBytes3 : Try.prog.cellsOf 28 = 1 := by kernel_rfl
theorem cellsStrs : Try.prog.cellsOf 24 = 1 := by kernel_rfl

theorem ask3_open {H : Type} {enc : TypeId × Value → H} {W : World} {b0 base : Nat} {r : Reach} {spare : Nat → Bool} {held : Bool} {v : Value} {d : DataW H} {p : List MemPlace}
    (hv : Value.okWide Try.prog W r b0 26 v) (h : DataW.Trod enc Try.prog W base spare held 26 v d p) (hf : Fits Try.prog 26 d) :
    ∃ (vM vN vL : Value) (l : List M3) (zs : List Int) (ss : List ByteArray), v = .agg #[vM, vN, vL] ∧ MatsIn W vM l ∧ NumsIn W vN zs ∧ TextsIn W vL ss := by
  obtain ⟨cs, rfl, hsz⟩ := okWide_struct Try.underlying26 hv
  obtain ⟨fuel, h⟩ := h
  obtain ⟨l⟩ := cs
  match l, hsz.trans cellsAsk3 with
  | [x0, x1, x2], _ =>
    obtain ⟨n0, y0, h0, f0⟩ := open_field Try.underlying26 h hf 0 rfl [x0] cellsMats rfl
    obtain ⟨n1, y1, h1, f1⟩ := open_field Try.underlying26 h hf 1 rfl [x1] cellsInts3 rfl
    obtain ⟨n2, y2, h2, f2⟩ := open_field Try.underlying26 h hf 2 rfl [x2] cellsStrs rfl
    obtain ⟨l, hl⟩ := matsIn_open Try.underlying22 Try.underlying30 cellsMat Try.underlying3 Try.underlying3 Try.underlying28 Try.underlying5 cellsByte3 rfl rfl rfl cellsInt3 cellsInt3 cellsBytes3 h0
    obtain ⟨zs, hz⟩ := numsIn_open Try.underlying23 Try.underlying3 cellsInt3 h1
    obtain ⟨ss, hs⟩ := textsIn_open Try.underlying24 Try.underlying9 cellsStr bytesStr h2 f2
    exact ⟨_, _, _, l, zs, ss, rfl, hl, hz, hs⟩
end Go.Proofs.Ytibinkppbdeofaa

/- Bytes and matrices that are one; the law's error number. -/

namespace Go.Proofs.Ytibinkppbdeofaa
open Go.ChangeShapes Go.WideShapes Go.ChangeAt Go.RowKit Go.Joins
set_option linter.unusedVariables false
set_option linter.unusedSimpArgs false

set_option maxRecDepth 100000 in
set_option maxHeartbeats 1000000 in
theorem eqBytes_yes (va vb : Value) (l : List Nat) (w : World) (ha : BytesV w va l) (hb : BytesV w vb l) (hm : l.length ≤ 9000000000000000000) :
    Calls Try.prog 42 #[va, vb] w fun e w' => e = .returned (.bool true) ∧ Below w.heap.size w w' := by
  have HA := Lib.hid ha
  have HB := Lib.hid hb
  obtain ⟨Aa, ka, rfl⟩ := ha.shape
  obtain ⟨Ab, kb, rfl⟩ := hb.shape
  clear ha hb
  go_enter Try.func42, Try.ntmps42
  go_wp2_with fail
  go_loopw [5] (fun i wr => ∃ k : Nat, i = .int .i64 k ∧ k ≤ l.length ∧ Below w.heap.size w wr) (fun i _ => l.length - (intOf i).toNat)
  case atStart => exact ⟨0, rfl, by omega, Below.refl _ _⟩
  case round =>
    obtain ⟨k, rfl, hk, hwr⟩ := hrel
    by_cases hlt : k < l.length
    · obtain ⟨ba, oa, rfl, _, a0⟩ := (HA.out.below hwr).at_ hlt
      obtain ⟨bb, ob, rfl, _, b0⟩ := (HB.out.below hwr).at_ hlt
      generalize l.getD k 0 = s at a0 b0
      have j0 : (0 : Int) ≤ (k : Int) := by omega
      have j1 : (k : Int) < (l.length : Int) := by omega
      go_wp2_with fail
      go_quiet (fail)
      all_goals
        go_wp2_with fail
        go_roundw
        case rel => exact ⟨k + 1, by go_num, by omega, below_drewN hwr _⟩
        case measure => simp [intOf]; omega
    · go_wp2_with fail
      go_ret
      exact ⟨rfl, hwr⟩

set_option maxRecDepth 100000 in
set_option maxHeartbeats 1000000 in
theorem eqMatrix_yes (R C : Int) (va vb : Value) (l : List Nat) (w : World) (ha : BytesV w va l) (hb : BytesV w vb l) (hm : l.length ≤ 9000000000000000000) :
    Calls Try.prog 14 #[matV R C va, matV R C vb] w fun e w' => e = .returned (.bool true) ∧ Below w.heap.size w w' := by
  obtain ⟨Aa, ka, rfl⟩ := ha.shape
  obtain ⟨Ab, kb, rfl⟩ := hb.shape
  have hb1 := (Below.refl w.heap.size w).alloc (Nat.le_refl _) (.cells #[.int .i64 R, .int .i64 C, .slice Aa l.length ka] 30)
  have hb2 := hb1.alloc hb1.size (.cells #[.int .i64 R, .int .i64 C, .slice Ab l.length kb] 30)
  have HA := Lib.hid (ha.below hb2)
  have HB := Lib.hid (hb.below hb2)
  have HX := Lib.hid hb2
  clear ha hb hb1 hb2
  unfold matV
  go_enter Try.func14, Try.ntmps14
  go_wp2_with fail
  refine (eqBytes_yes _ _ l _ HA.out HB.out hm).mono ?_
  rintro e w1 ⟨rfl, hb⟩
  have hx := cum2 HX.out hb
  clear hb HA HB HX
  go_wp2_with fail
  go_ret
  exact ⟨rfl, hx⟩

set_option maxRecDepth 100000 in
set_option maxHeartbeats 400000 in
theorem num3_any (n : Int) (w : World) : Calls Try.prog 13 #[.int .i64 n] w fun e w' => e = .returned (.int .i64 n) ∧ w = w' := by
  go_enter Try.func13, Try.ntmps13
  go_wp2_with fail
  go_ret
  exact ⟨rfl, rfl⟩
end Go.Proofs.Ytibinkppbdeofaa

/- A matrix's rows, ranged over: what the iterator promises. -/

namespace Go.Proofs.Ytibinkppbdeofaa
open Go.ChangeShapes Go.WideShapes Go.ChangeAt Go.RowKit Go.Joins Go.Shelf
set_option linter.unusedVariables false
set_option linter.unusedSimpArgs false
attribute [local go_sem] Oper.semAt_some

set_option maxRecDepth 100000 in
set_option maxHeartbeats 400000 in
theorem row_alloc (R : Int) (c i b o n k : Nat) (w : World) (hc : c ≤ 16) (hc1 : 1 ≤ c) (hi : i ≤ 16) (hn : (i + 1) * c ≤ n) (hk : n ≤ k) (hk2 : k ≤ 9223372036854775807) :
    Calls Try.prog 51 #[matV R (c : Int) (.slice (some ⟨b, o, none⟩) n k), .int .i64 (i : Int)] w fun e w' => e = .returned (.slice (some ⟨b, o + i * c, none⟩) c (k - i * c)) ∧ w' = w.alloc (.cells #[.int .i64 R, .int .i64 (c : Int), .slice (some ⟨b, o, none⟩) n k] 30) := by
  obtain ⟨x, hx⟩ : ∃ x, x = i * c := ⟨_, rfl⟩
  obtain ⟨y, hy⟩ : ∃ y, y = (i + 1) * c := ⟨_, rfl⟩
  have hyx : y = x + c := by rw [hy, hx, Nat.add_mul, Nat.one_mul]
  have h1 : (i : Int) * (c : Int) = (x : Int) := by rw [hx]; simp
  have h2 : ((i : Int) + 1) * (c : Int) = (y : Int) := by rw [hy]; simp
  rw [← hy] at hn
  rw [← hx]
  have hxs : x ≤ 16 * 16 := by rw [hx]; exact Nat.mul_le_mul hi hc
  have h4 : (0 : Int) ≤ (x : Int) := by omega
  have h5 : (x : Int) ≤ (y : Int) := by omega
  have h6 : (y : Int) ≤ (k : Int) := by omega
  have w1 : IntKind.i64.wrap (x : Int) = (x : Int) := IntWalk.i64_in _ (by omega)
  have w2 : IntKind.i64.wrap (y : Int) = (y : Int) := IntWalk.i64_in _ (by omega)
  have w3 : IntKind.i64.wrap ((i : Int) + 1) = (i : Int) + 1 := IntWalk.i64_in _ (by omega)
  clear hx hy
  unfold matV
  go_enter Try.func51, Try.ntmps51
  go_wp2_with fail
  all_goals
    first
      | (exfalso; omega)
      | (go_ret
         exact ⟨by show Ending.returned (Value.slice _ (x + c - x) (k - x)) = _; rw [Nat.add_sub_cancel_left], rfl⟩)

set_option maxRecDepth 100000 in
set_option maxHeartbeats 400000 in
theorem rows_any (R C : Int) (A : Option Addr) (n k : Nat) (w : World) :
    Calls Try.prog 47 #[matV R C (.slice A n k)] w fun e w' => e = .returned (.func (.func 65) #[] #[.pointer (some ⟨w.heap.size, 0, none⟩)]) ∧ w' = w.alloc (.cells #[.int .i64 R, .int .i64 C, .slice A n k] 30) := by
  unfold matV
  go_enter Try.func47, Try.ntmps47
  go_wp2_with fail
  go_ret
  exact ⟨rfl, rfl⟩

/-- The numbers below j, each of them below r. -/
def finL (r : Nat) : (j : Nat) → j ≤ r → List (Fin r)
  | 0, _ => []
  | j + 1, h => finL r j (by omega) ++ [⟨j, by omega⟩]
theorem finL_val (r : Nat) : ∀ (j : Nat) (h : j ≤ r), (finL r j h).map Fin.val = List.range j
  | 0, _ => rfl
  | j + 1, h => by rw [finL, List.map_append, finL_val r j, List.range_succ]; rfl
theorem finL_length (r : Nat) : ∀ (j : Nat) (h : j ≤ r), (finL r j h).length = j
  | 0, _ => rfl
  | j + 1, h => by rw [finL, List.length_append, finL_length r j]; rfl
/-- What the iterator hands out: a row's number, the row. -/
abbrev encRow (b o c k : Nat) {r : Nat} (i : Fin r) : Array Value := #[.int .i64 (i.1 : Int), .slice (some ⟨b, o + i.1 * c, none⟩) c (k - i.1 * c)]
/-- What a round must keep: the iterator's box. -/
def KeepsBox (Bn : Nat) (W W' : World) : Prop := W.heap.size ≤ W'.heap.size ∧ W'.heap[Bn]? = W.heap[Bn]?
theorem keepsBox_t {Bn : Nat} {A B C : World} (h : KeepsBox Bn A B) (k : KeepsBox Bn B C) : KeepsBox Bn A C := ⟨Nat.le_trans h.1 k.1, k.2.trans h.2⟩
theorem keepsBox_b {Bn : Nat} {w : World} (hB : Bn < w.heap.size) (W : World) (l : Nat) (o o' : Obj) (hl : w.heap.size ≤ l) (_ : W.heap[l]? = some o) (_ : o.isCells = false) (_ : o.isWalk = false) : KeepsBox Bn W (W.putObj l o') :=
  ⟨by simp [World.putObj], World.putObj_heap_other (by omega)⟩
theorem three_of {w W : World} {B : Nat} {a b c : Value} (h : Three w B a b c) (hk : W.heap[B]? = w.heap[B]?) : Three W B a b c :=
  ⟨by rw [World.cell?_of_block (w := w) (a := ⟨B, 0, none⟩) hk]; exact h.c0, by rw [World.cell?_of_block (w := w) (a := ⟨B, 1, none⟩) hk]; exact h.c1, by rw [World.cell?_of_block (w := w) (a := ⟨B, 2, none⟩) hk]; exact h.c2,
    by rw [World.frozen?_of_block (w := w) (a := ⟨B, 0, none⟩) hk]; exact h.f0, by rw [World.frozen?_of_block (w := w) (a := ⟨B, 1, none⟩) hk]; exact h.f1, by rw [World.frozen?_of_block (w := w) (a := ⟨B, 2, none⟩) hk]; exact h.f2⟩

set_option maxRecDepth 100000 in
set_option maxHeartbeats 1000000 in
theorem rows1_stops (Bn r c b o n k : Nat) (w : World) (hBn : Bn < w.heap.size) (hT : Three w Bn (.int .i64 (r : Int)) (.int .i64 (c : Int)) (.slice (some ⟨b, o, none⟩) n k)) (hr : r ≤ 16) (hc : c ≤ 16) (hc1 : 1 ≤ c) (hn : r * c ≤ n) (hk : n ≤ k) (hk2 : k ≤ 9223372036854775807) :
    SeqStopsK Fence.wide 9 Try.prog 65 #[.pointer (some ⟨Bn, 0, none⟩)] (encRow b o c k (r := r)) (KeepsBox Bn) (fun xs => xs = finL r r (Nat.le_refl r)) (fun pre => ∃ j, ∃ h : j ≤ r, pre = finL r j h) r w := fun l J Jx W hW hJa _ hY h0 => by
  have hBW : W.heap[Bn]? = w.heap[Bn]? := hW.block Bn hBn
  have HT := Lib.hid hT
  obtain ⟨a0, a1, a2, _, _, _⟩ := three_of hT hBW
  have HBW := Lib.hid hBW
  have hBW2 := Nat.lt_of_lt_of_le hBn hW.size
  clear hBW hT hW
  refine callsIn_of_wp Try.func65 rfl trivial ?_ rfl
  simp only [Try.ntmps65, List.size_toArray, List.length_cons, List.length_nil, Nat.reduceAdd, Nat.reduceSub, Array.replicate_succ, Array.replicate_zero, List.push_toArray, List.append_toArray, List.nil_append, List.cons_append]
  gi_wp2
  clear a0 a1 a2
  gi_loopw [3, 6] (fun x i wr => ∃ (j : Nat) (hj : j ≤ r), i = .int .i64 j ∧ J (finL r j hj) wr ∧ Hid (wr.heap[Bn]? = w.heap[Bn]?) ∧ W.heap.size ≤ wr.heap.size) (fun _ i _ => r - (intOf i).toNat)
  case atStart => exact ⟨0, by omega, rfl, h0, HBW, Nat.le_refl _⟩
  case round =>
    obtain ⟨j, hj, rfl, hJ, HB, hsz⟩ := hrel
    by_cases hjr : j < r
    · obtain ⟨a0, a1, a2, _, _, _⟩ := three_of HT.out HB.out
      have hjm : (j + 1) * c ≤ n := Nat.le_trans (Nat.mul_le_mul_right c hjr) hn
      have hJ1 := hJa _ wr (wr.alloc (.cells #[.int .i64 (r : Int), .int .i64 (c : Int), .slice (some ⟨b, o, none⟩) n k] 30)) none hJ (World.grownBy_alloc wr _ none) (fun r e => by cases e)
      obtain ⟨fn, tmps, assign, body, hy, hR⟩ := hY (finL r j hj) ⟨j, hjr⟩ _ hJ1 (by rw [finL_length]; exact hjr)
      dsimp only [encRow] at hy
      have hB2 : Hid ((wr.alloc (.cells #[.int .i64 (r : Int), .int .i64 (c : Int), .slice (some ⟨b, o, none⟩) n k] 30)).heap[Bn]? = w.heap[Bn]?) := by
        rw [Hid, Below.heap_alloc _ _ _ (by omega)]; exact HB.out
      have hsz2 : W.heap.size ≤ (wr.alloc (.cells #[.int .i64 (r : Int), .int .i64 (c : Int), .slice (some ⟨b, o, none⟩) n k] 30)).heap.size := by simp; omega
      gi_wp2_with (refine ⟨trivial, ?_⟩; gi_at_call 51; refine (callsIn_wide.2 (row_alloc (r : Int) c j b o n k _ hc hc1 (by omega) hjm hk hk2)).mono ?_; rintro e w' ⟨rfl, rfl⟩)
      clear hJ HB hsz a0 a1 a2
      refine hR.mono ?_
      rintro e W3 (⟨rfl, hJ3, hk3⟩ | ⟨rfl, hJx3⟩)
      · have HB3 : Hid (W3.heap[Bn]? = w.heap[Bn]?) := Lib.hid (hk3.2.trans hB2.out)
        have hsz3 := Nat.le_trans hsz2 hk3.1
        clear hk3 hB2 hsz2 hJ1
        gi_wp2
        go_roundw
        case rel => exact ⟨j + 1, by omega, by go_num, hJ3, HB3, hsz3⟩
        case measure => simp [intOf]; omega
      · gi_wp2
        refine bodyPost_ret (results_none rfl _ _ _) rfl ?_
        exact ⟨⟨_, rfl⟩, .inr ⟨finL r (j + 1) hjr, ⟨_, hjr, rfl⟩, hJx3⟩⟩
    · obtain rfl : j = r := by omega
      gi_wp2
      go_end0
      exact ⟨⟨_, rfl⟩, .inl ⟨_, rfl, hJ⟩⟩
end Go.Proofs.Ytibinkppbdeofaa
