/- What came in to the laws of shards: shards and texts; silolaw12.Heavy. -/
import Derived.Test.YtiminahobifomaaDoorOpen
import Derived.Test.YtiminahobifomaaDoorSpoil
import Derived.Test.YtiminahobifomaaDoorShK
namespace Go.Proofs.YtiminahobifomaaDoor
open Go.ChangeShapes Go.WideShapes Go.ChangeAt Go.RowKit Go.Joins Go.Shelf
open Go.Deep (open_slice open_slice1 oneCellFields hone_of)
set_option linter.unusedVariables false
set_option linter.unusedSimpArgs false

def lenV : Value → Nat
  | .slice _ n _ => n
  | _ => 0
/-- A slice's length is within the form's reach. -/
theorem slice_reach {H : Type} {enc : TypeId × Value → H} {P : Program} {w : World} {base : Nat} {spare : Nat → Bool} {held : Bool} {t e : TypeId} {fuel : Nat} {v : Value} {x : DataW H × List MemPlace}
    (ht : P.underlying t = some (.slice e)) (h : DataW.trod enc P w base spare held fuel t [v] = some x) (hf : Fits P t x.1) : lenV v * P.bytesOf e ≤ 140737488351232 := by
  rcases open_slice ht h with ⟨hcs, _⟩ | ⟨a, len, cap, m, n, D, Pl, hcs, hb, hl, hm, hmm, hx, hi⟩
  · simp only [List.cons.injEq, and_true] at hcs
    subst hcs
    simp [lenV]
  · simp only [List.cons.injEq, and_true] at hcs
    subst hcs
    have hlm : len ≤ m := by rw [hmm]; split <;> omega
    rw [hx] at hf
    have h1 := hf (m * P.bytesOf e) (by simp [DataW.weights, ht]; left; rw [Nat.add_sub_cancel' hlm])
    rw [reach_eq] at h1
    exact Nat.le_trans (Nat.mul_le_mul_right _ hlm) h1
/-- What Texts comes to, bounded. -/
def TotalFew (ss : List ByteArray) (w : World) (e : Ending) (w' : World) : Prop := ∃ r : Nat, (r = total ss ∨ 1048576 ≤ r) ∧ r ≤ 200000000000000 ∧ e = .returned (.int .i64 (r : Int)) ∧ w = w'

set_option maxRecDepth 100000 in
set_option maxHeartbeats 400000 in
theorem texts_few (v : Value) (ss : List ByteArray) (w : World) (h : TextsIn w v ss) :
    Calls Tryd.prog 19 #[v] w (TotalFew ss w) := by
  obtain ⟨p, cap, rfl, h16, hs, hS⟩ := h
  have HS := Lib.hid hS
  have HB := Lib.hid hs
  clear hS hs
  go_enter Tryd.func19, Tryd.ntmps19
  go_wp2_with fail
  go_loop [3, 4] (fun n i => ∃ k m : Nat, i = .int .i64 k ∧ n = .int .i64 m ∧ k ≤ ss.length ∧ m ≤ 200000000000000 ∧ Hid (m = ss.length + ((ss.take k).map ByteArray.size).sum)) (fun _ i => ss.length - (intOf i).toNat)
  case atStart => exact ⟨0, ss.length, rfl, rfl, by omega, by omega, by simp [Hid]⟩
  case round =>
    obtain ⟨k, m, rfl, rfl, hk, hm, HM⟩ := hrel
    by_cases hlt : k < ss.length
    · obtain ⟨b, off, s, rfl, hsz, HE, hcell⟩ := text_at HS.out HB.out hlt
      by_cases h20 : m < 1048576
      · have hd : decide ((m : Int) < 1048576) = true := by simp; omega
        go_wp2_with fail
        go_round
        case rel => exact ⟨k + 1, m + s.size, by go_num, by go_num, by omega, by omega, by rw [Hid, total_step hlt, ← HE.out, HM.out]; omega⟩
        case measure => simp [intOf]; omega
      · have hd : decide ((m : Int) < 1048576) = false := by simp; omega
        go_wp2_with fail
        go_ret
        exact ⟨m, Or.inr (by omega), by omega, rfl, rfl⟩
    · have hke : k = ss.length := by omega
      have HT : Hid (m = total ss) := by rw [Hid, HM.out, hke, List.take_length]; rfl
      go_wp2_with fail
      all_goals
        go_ret
        exact ⟨m, Or.inl HT.out, by omega, rfl, rfl⟩


def i64In (z : Int) : Prop := -9223372036854775808 ≤ z ∧ z ≤ 9223372036854775807
theorem i64In_of {z : Int} (h : (Lit.int .i64 z).wf = true) : i64In z := by
  simpa [i64In, Lit.wf, IntKind.min, IntKind.max, IntKind.signed, IntKind.bits] using h
/-- A shard that came in: whatever its numbers are. -/
abbrev S4 := Int × Int × Int × ByteArray
def s0 : S4 := (0, 0, 0, ByteArray.empty)
def ShAt (w : World) (b o k : Nat) (s : S4) : Prop :=
  w.cell? ⟨b, o + k * 4, none⟩ = some (.int .i64 s.1) ∧ w.cell? ⟨b, o + k * 4 + 1, none⟩ = some (.int .i64 s.2.1) ∧ w.cell? ⟨b, o + k * 4 + 2, none⟩ = some (.int .i64 s.2.2.1) ∧ w.cell? ⟨b, o + k * 4 + 3, none⟩ = some (.string s.2.2.2)
def ShOk (s : S4) : Prop := i64In s.1 ∧ i64In s.2.1 ∧ i64In s.2.2.1 ∧ s.2.2.2.size ≤ 140737488351232
def ShardsIn (w : World) (v : Value) (l : List S4) : Prop :=
  ∃ A c, v = .slice A l.length c ∧ l.length ≤ 9223372036854775807 ∧ ∀ k, k < l.length → ∃ b o, A = some ⟨b, o, none⟩ ∧ b < w.heap.size ∧ ShAt w b o k (l.getD k s0) ∧ ShOk (l.getD k s0)
theorem ShAt.below {w w' : World} {b o k : Nat} {s : S4} (h : ShAt w b o k s) (hb : b < w.heap.size) (hw : Below w.heap.size w w') : ShAt w' b o k s := by
  obtain ⟨h0, h1, h2, h3⟩ := h
  exact ⟨(hw.cell (p := ⟨b, o + k * 4, none⟩) hb).trans h0, (hw.cell (p := ⟨b, o + k * 4 + 1, none⟩) hb).trans h1, (hw.cell (p := ⟨b, o + k * 4 + 2, none⟩) hb).trans h2, (hw.cell (p := ⟨b, o + k * 4 + 3, none⟩) hb).trans h3⟩
theorem ShardsIn.below {w w' : World} {v : Value} {l : List S4} (h : ShardsIn w v l) (hb : Below w.heap.size w w') : ShardsIn w' v l := by
  obtain ⟨A, c, h1, h2, h3⟩ := h
  refine ⟨A, c, h1, h2, fun k hk => ?_⟩
  obtain ⟨b, o, e, hlt, hs, ho⟩ := h3 k hk
  exact ⟨b, o, e, Nat.lt_of_lt_of_le hlt hb.size, hs.below hlt hb, ho⟩

theorem shardsIn_open {H : Type} {enc : TypeId × Value → H} {P : Program} {w : World} {base : Nat} {spare : Nat → Bool} {held : Bool} {t e : TypeId} {f0 f1 f2 f3 : Field} {fuel : Nat} {v : Value} {x : DataW H × List MemPlace} (ht : P.underlying t = some (.slice e)) (he : P.underlying e = some (.struct #[f0, f1, f2, f3])) (hC : P.cellsOf e = 4)
    (u0 : P.underlying f0.type = some (.int .i64)) (u1 : P.underlying f1.type = some (.int .i64)) (u2 : P.underlying f2.type = some (.int .i64)) (u3 : P.underlying f3.type = some .string)
    (o0 : f0.offset = 0) (o1 : f1.offset = 1) (o2 : f2.offset = 2) (o3 : f3.offset = 3) (c0 : P.cellsOf f0.type = 1) (c1 : P.cellsOf f1.type = 1) (c2 : P.cellsOf f2.type = 1) (c3 : P.cellsOf f3.type = 1)
    (h : DataW.trod enc P w base spare held fuel t [v] = some x) (hF : Fits P t x.1) : ∃ l, ShardsIn w v l := by
  rcases open_slice ht h with ⟨hcs, _⟩ | ⟨a, len, cap, m, n, D, Pl, hcs, hb, hl, hm, hmm, hx, hi⟩
  · simp only [List.cons.injEq, and_true] at hcs
    subst hcs
    exact ⟨[], none, 0, rfl, by simp, fun k hk => by simp at hk⟩
  · simp only [List.cons.injEq, and_true] at hcs
    subst hcs
    have hlm : len ≤ m := by rw [hmm]; split <;> omega
    rw [hC] at hi
    have hcell : ∀ i, i < len → ∃ s : S4, (w.cell? (a.add (i * 4)) = some (.int .i64 s.1) ∧ w.cell? (a.add (i * 4 + 1)) = some (.int .i64 s.2.1) ∧ w.cell? (a.add (i * 4 + 2)) = some (.int .i64 s.2.2.1) ∧ w.cell? (a.add (i * 4 + 3)) = some (.string s.2.2.2)) ∧ ShOk s := by
      intro i hi'
      obtain ⟨cs', hc, ht'⟩ := hi i (by omega)
      obtain ⟨_, hcl, hat⟩ := World.cells?_some hc
      have hfe : Fits P e (D i) := by
        intro q hq
        rw [hx] at hF
        refine hF q ?_
        simp only [DataW.weights, ht, List.mem_cons, List.mem_append]
        exact Or.inr (Or.inl (weightsAll_mem (List.mem_map.2 ⟨i, List.mem_range.2 (by omega), rfl⟩) q hq))
      match cs', hcl with
      | [w0, w1, w2, w3], _ =>
        obtain ⟨n0, y0, g0, _⟩ := open_field (x := (D i, Pl i)) (f := f0) he ht' hfe 0 rfl [w0] c0 (by rw [o0]; rfl)
        obtain ⟨n1, y1, g1, _⟩ := open_field (x := (D i, Pl i)) (f := f1) he ht' hfe 1 rfl [w1] c1 (by rw [o1]; rfl)
        obtain ⟨n2, y2, g2, _⟩ := open_field (x := (D i, Pl i)) (f := f2) he ht' hfe 2 rfl [w2] c2 (by rw [o2]; rfl)
        obtain ⟨n3, y3, g3, hf3⟩ := open_field (x := (D i, Pl i)) (f := f3) he ht' hfe 3 rfl [w3] c3 (by rw [o3]; rfl)
        obtain ⟨z0, e0, _, b0⟩ := DataW.trod_int u0 g0
        obtain ⟨z1, e1, _, b1⟩ := DataW.trod_int u1 g1
        obtain ⟨z2, e2, _, b2⟩ := DataW.trod_int u2 g2
        obtain ⟨s, e3, hy3, _⟩ := DataW.trod_string u3 g3
        have hss : s.size ≤ 140737488351232 := by
          have := hf3 s.size (by rw [hy3]; simp [DataW.weights])
          rw [reach_eq] at this
          exact this
        simp at e0 e1 e2 e3
        subst e0 e1 e2 e3
        have k0 := hat 0 (by omega); have k1 := hat 1 (by omega); have k2 := hat 2 (by omega); have k3 := hat 3 (by omega)
        rw [Go.Deep.add_add] at k0 k1 k2 k3
        exact ⟨(z0, z1, z2, s), ⟨by simpa using k0, by simpa using k1, by simpa using k2, by simpa using k3⟩, i64In_of b0, i64In_of b1, i64In_of b2, hss⟩
    obtain ⟨l, hll, hls⟩ := pick_list (m := len) (s0 : S4) hcell
    unfold maxLen at hm
    refine ⟨l, some a, cap, by rw [hll], by omega, fun k hk => ?_⟩
    obtain ⟨b, off, spot⟩ := a
    have hspot : spot = none := by simpa [Addr.add] using World.cell?_spot (hls 0 (by omega)).1.1
    subst hspot
    simp only [Go.WideShapes.add_plain] at hls
    obtain ⟨⟨q0, q1, q2, q3⟩, q4⟩ := hls k (by omega)
    exact ⟨b, off, rfl, cell_block q0, ⟨q0, by rw [Nat.add_assoc]; exact q1, by rw [Nat.add_assoc]; exact q2, by rw [Nat.add_assoc]; exact q3⟩, q4⟩

theorem cellsAsk12 : Tryd.prog.cellsOf 25 = 2 := by kernel_rfl
theorem cellsShard : Tryd.prog.cellsOf 28 = 4 := by kernel_rfl
theorem cellsShards : Tryd.prog.cellsOf 22 = 1 := by kernel_rfl
theorem cellsStr12 : Tryd.prog.cellsOf 9 = 1 := by kernel_rfl
theorem bytesStr12 : Tryd.prog.bytesOf 9 = 16 := by kernel_rfl
theorem cellsInt12 : Tryd.prog.cellsOf 3 = 1 := by kernel_rfl
theorem cellsStrs12 : Tryd.prog.cellsOf 23 = 1 := by kernel_rfl

theorem ask12_open {H : Type} {enc : TypeId × Value → H} {W : World} {b0 base : Nat} {r : Reach} {spare : Nat → Bool} {held : Bool} {v : Value} {d : DataW H} {p : List MemPlace}
    (hv : Value.okWide Tryd.prog W r b0 25 v) (h : DataW.Trod enc Tryd.prog W base spare held 25 v d p) (hf : Fits Tryd.prog 25 d) :
    ∃ (vS vL : Value) (l : List S4) (ss : List ByteArray), v = .agg #[vS, vL] ∧ ShardsIn W vS l ∧ TextsIn W vL ss := by
  obtain ⟨cs, rfl, hsz⟩ := okWide_struct Tryd.underlying25 hv
  obtain ⟨fuel, h⟩ := h
  obtain ⟨l⟩ := cs
  match l, hsz.trans cellsAsk12 with
  | [x0, x1], _ =>
    obtain ⟨n0, y0, h0, f0⟩ := open_field Tryd.underlying25 h hf 0 rfl [x0] cellsShards rfl
    obtain ⟨n1, y1, h1, f1⟩ := open_field Tryd.underlying25 h hf 1 rfl [x1] cellsStrs12 rfl
    obtain ⟨l, hl⟩ := shardsIn_open Tryd.underlying22 Tryd.underlying28 cellsShard Tryd.underlying3 Tryd.underlying3 Tryd.underlying3 Tryd.underlying9 rfl rfl rfl rfl cellsInt12 cellsInt12 cellsInt12 cellsStr12 h0 f0
    obtain ⟨ss, hS⟩ := textsIn_open Tryd.underlying23 Tryd.underlying9 cellsStr12 bytesStr12 h1 f1
    exact ⟨_, _, l, ss, rfl, hl, hS⟩

theorem textsIn_below12 {w w' : World} {v : Value} {ss : List ByteArray} (h : TextsIn w v ss) (hb : Below w.heap.size w w') : TextsIn w' v ss := by
  obtain ⟨p, cap, h1, h2, h3, h4⟩ := h
  exact ⟨p, cap, h1, h2, h3, h4.below hb⟩
theorem join_total (ss : List ByteArray) : ss.length + (joinB ss).length = total ss := by
  have : (joinB ss).length = (ss.map ByteArray.size).sum := by
    induction ss with
    | nil => rfl
    | cons a l ih => rw [joinB_cons, List.length_append, bytesOf_length, ih, List.map_cons, List.sum_cons]
  rw [this]
  rfl

/-- What Heavy tells: where it says no, little came in. -/
def HeavyOut12 (ss : List ByteArray) (w : World) (e : Ending) (w' : World) : Prop := ∃ b : Bool, e = .returned (.bool b) ∧ (b = false → total ss ≤ 4000) ∧ Below w.heap.size w w'
set_option maxRecDepth 100000 in
set_option maxHeartbeats 2000000 in
theorem heavy12_any (vS vL : Value) (l : List S4) (ss : List ByteArray) (w : World) (hS : ShardsIn w vS l) (hL : TextsIn w vL ss) :
    Calls Tryd.prog 5 #[.agg #[vS, vL]] w (HeavyOut12 ss w) := by
  obtain ⟨hbe, a0, a1⟩ := box2_facts w vS vL 25
  have HBE := Lib.hid hbe
  have HS := Lib.hid (hS.below hbe)
  have HT := Lib.hid (textsIn_below12 hL hbe)
  obtain ⟨A, c, rfl, hll, _⟩ := hS
  obtain ⟨pL, kL, rfl, _⟩ := hL
  clear hbe
  go_enter Tryd.func5, Tryd.ntmps5
  go_wp2_with fail
  generalize w.alloc (.cells #[.slice A l.length c, .slice pL ss.length kL] 25) = W0 at *
  refine (texts_few _ ss _ HT.out).mono ?_
  rintro e w' ⟨r, hr, hr2, rfl, rfl⟩
  have HR := Lib.hid hr
  clear hr
  have hr0 : r ≤ 200000000000000 := hr2
  go_wp2_with fail
  go_loop [3, 4] (fun nv iv => ∃ k n : Nat, iv = .int .i64 (k : Int) ∧ nv = .int .i64 (n : Int) ∧ k ≤ l.length ∧ n ≤ 200000000000000 ∧ r ≤ n) (fun _ i => l.length - (intOf i).toNat)
  case atStart => exact ⟨0, r, rfl, rfl, by omega, hr0, Nat.le_refl _⟩
  case round =>
    obtain ⟨k, n, rfl, rfl, hk, hn, hrn⟩ := hrel
    by_cases hlt : k < l.length
    · by_cases h20 : n < 1048576
      · have hd : decide ((n : Int) < 1048576) = true := decide_eq_true (by omega)
        obtain ⟨_, _, e, _, hs⟩ := HS.out
        cases e
        obtain ⟨b, o, rfl, _, ⟨s0, s1, s2, s3⟩, ⟨_, _, _, hsz⟩⟩ := hs k hlt
        generalize (l.getD k Go.Proofs.YtiminahobifomaaDoor.s0).2.2.2 = tx at *
        have j0 : (0 : Int) ≤ (k : Int) := by omega
        have j1 : (k : Int) < (l.length : Int) := by omega
        have w1 : IntKind.i64.wrap ((n : Int) + 1) = (n : Int) + 1 := IntWalk.i64_in _ (by omega)
        have w2 : IntKind.i64.wrap ((n : Int) + 1 + ((tx.size : Nat) : Int)) = ((n + 1 + tx.size : Nat) : Int) := by rw [IntWalk.i64_in _ (by omega)]; omega
        clear hs s0 s1 s2
        go_wp2_with fail
        go_round
        case rel => exact ⟨k + 1, n + 1 + tx.size, by go_num, rfl, by omega, by omega, by omega⟩
        case measure => simp [intOf]; omega
      · have hd : decide ((n : Int) < 1048576) = false := decide_eq_false (by omega)
        have hd2 : decide ((4000 : Int) < (n : Int)) = true := decide_eq_true (by omega)
        go_wp2_with fail
        go_ret
        exact ⟨true, rfl, by simp, HBE.out⟩
    · have hke : k = l.length := by omega
      subst hke
      have hd1 : decide ((l.length : Int) < (l.length : Int)) = false := decide_eq_false (by omega)
      by_cases h4 : 4000 < n
      · have hd2 : decide ((4000 : Int) < (n : Int)) = true := decide_eq_true (by omega)
        go_wp2_with fail
        all_goals
          go_ret
          exact ⟨true, rfl, by simp, HBE.out⟩
      · have hd2 : decide ((4000 : Int) < (n : Int)) = false := decide_eq_false (by omega)
        have HF : Hid (total ss ≤ 4000) := by rcases HR.out with h | h <;> (rw [Hid]; omega)
        go_wp2_with fail
        all_goals
          go_ret
          exact ⟨false, rfl, fun _ => HF.out, HBE.out⟩
end Go.Proofs.YtiminahobifomaaDoor
