/- How much came in to the laws of matrices: by the form's reach; Heavy, walked, with what it tells. -/
import Derived.Test.YtibinkppbdeofaaPk17LawMatrixTells
import Derived.Test.YtibinkppbdeofaaPk06LawMatrixTells
import Derived.Test.YtibinkppbdeofaaPk05LawMatrixTells
namespace Go.Proofs.Ytibinkppbdeofaa
open Go.ChangeShapes Go.WideShapes Go.ChangeAt Go.RowKit Go.Joins Go.Shelf
open Go.Deep (open_slice open_slice1 oneCellFields hone_of)
set_option linter.unusedVariables false
set_option linter.unusedSimpArgs false

def lenV : Value → Nat
  | .slice _ n _ => n
  | _ => 0
/-- A slice's length is within the form's reach. -/
theorem slice_reach {H : Type} {enc : TypeId × Value → H} {P : Program} {w : World} {base : Nat} {spare : Nat → Bool} {held : Bool} {t e : TypeId} {fuel : Nat} {v : Value} {x : DataW H × List MemPlace}
    (ht : P.underlying t = some (.slice e)) (h : DataW.trod enc P w base spare held fuel t [v] = some x) (hf : Fits P t x.1) : lenV v * P.bytesOf e ≤ 140737488351232 := by
  rcases open_slice ht h with ⟨hcs, _⟩ | ⟨a, len, cap, m, n, D, Pl, hcs, hb, hl, hm, hmm, hx, hi⟩
  · simp only [List.cons.injEq, and_true] at hcs
    subst hcs
    simp [lenV]
  · simp only [List.cons.injEq, and_true] at hcs
    subst hcs
    have hlm : len ≤ m := by rw [hmm]; split <;> omega
    rw [hx] at hf
    have h1 := hf (m * P.bytesOf e) (by simp [DataW.weights, ht]; left; rw [Nat.add_sub_cancel' hlm])
    rw [reach_eq] at h1
    exact Nat.le_trans (Nat.mul_le_mul_right _ hlm) h1
/-- A slice within its room. -/
def RoomL (v : Value) : Prop := ∃ p n c, v = .slice p n c ∧ n ≤ c ∧ c ≤ 9223372036854775807
theorem slice_room {H : Type} {enc : TypeId × Value → H} {P : Program} {w : World} {base : Nat} {spare : Nat → Bool} {held : Bool} {t e : TypeId} {fuel : Nat} {v : Value} {x : DataW H × List MemPlace}
    (ht : P.underlying t = some (.slice e)) (h : DataW.trod enc P w base spare held fuel t [v] = some x) : RoomL v := by
  rcases open_slice ht h with ⟨hcs, _⟩ | ⟨a, len, cap, m, n, D, Pl, hcs, hb, hl, hm, hmm, hx, hi⟩
  · simp only [List.cons.injEq, and_true] at hcs
    exact ⟨_, _, _, hcs, by omega, by omega⟩
  · simp only [List.cons.injEq, and_true] at hcs
    unfold maxLen at hm
    exact ⟨_, _, _, hcs, hl, by omega⟩
/-- How much matrices are, that came in. -/
theorem matsFew_open {H : Type} {enc : TypeId × Value → H} {P : Program} {w : World} {base : Nat} {spare : Nat → Bool} {held : Bool} {t e eb : TypeId} {f0 f1 f2 : Field} {fuel : Nat} {v : Value} {x : DataW H × List MemPlace} (ht : P.underlying t = some (.slice e)) (he : P.underlying e = some (.struct #[f0, f1, f2])) (hC : P.cellsOf e = 3)
    (u2 : P.underlying f2.type = some (.slice eb)) (o2 : f2.offset = 2) (c2 : P.cellsOf f2.type = 1) (hb1 : P.bytesOf eb = 1)
    (h : DataW.trod enc P w base spare held fuel t [v] = some x) (hF : Fits P t x.1) {l : List M3} (hM : MatsIn w v l) : l.length * P.bytesOf e ≤ 140737488351232 ∧ ∀ k, k < l.length → lenV (l.getD k (0, 0, .slice none 0 0)).2.2 ≤ 140737488351232 := by
  have hr := slice_reach ht h hF
  obtain ⟨A, c, rfl, hll, hM⟩ := hM
  refine ⟨hr, fun k hk => ?_⟩
  rcases open_slice ht h with ⟨hcs, _⟩ | ⟨a, len, cap, m, n, D, Pl, hcs, hb, hl, hm, hmm, hx, hi⟩
  · simp only [List.cons.injEq, and_true, Value.slice.injEq] at hcs
    omega
  · simp only [List.cons.injEq, and_true, Value.slice.injEq] at hcs
    obtain ⟨hA, hlen, hcap⟩ := hcs
    have hlm : len ≤ m := by rw [hmm]; split <;> omega
    rw [hC] at hi
    obtain ⟨b, o, hA2, _, _, _, k2, _⟩ := hM k hk
    rw [hA] at hA2
    cases hA2
    obtain ⟨cs', hc, ht'⟩ := hi k (by omega)
    obtain ⟨_, hcl, hat⟩ := World.cells?_some hc
    match cs', hcl with
    | [w0, w1, w2], _ =>
      have hfe : Fits P e (D k) := by
        intro q hq
        rw [hx] at hF
        refine hF q ?_
        simp only [DataW.weights, ht, List.mem_cons, List.mem_append]
        exact Or.inr (Or.inl (weightsAll_mem (List.mem_map.2 ⟨k, List.mem_range.2 (by omega), rfl⟩) q hq))
      obtain ⟨n', y, g2, f2'⟩ := open_field (x := (D k, Pl k)) (f := f2) he ht' hfe 2 rfl [w2] c2 (by rw [o2]; rfl)
      have g3 := slice_reach u2 g2 f2'
      rw [hb1] at g3
      have k2' := hat 2 (by omega)
      rw [Go.Deep.add_add, Go.WideShapes.add_plain] at k2'
      rw [← Nat.add_assoc] at k2'
      have : some (l.getD k (0, 0, .slice none 0 0)).2.2 = some w2 := by rw [← k2]; simpa using k2'
      rw [Option.some.inj this]
      omega

theorem bytesMat : Try.prog.bytesOf 30 = 40 := by kernel_rfl
theorem bytesU8 : Try.prog.bytesOf 5 = 1 := by kernel_rfl
theorem bytesInt : Try.prog.bytesOf 3 = 8 := by kernel_rfl

/-- How much came in. -/
def Reach3 (l : List M3) (zs : List Int) : Prop := l.length ≤ 140737488351232 ∧ zs.length ≤ 140737488351232 ∧ ∀ k, k < l.length → lenV (l.getD k (0, 0, .slice none 0 0)).2.2 ≤ 140737488351232

theorem ask3_fits {H : Type} {enc : TypeId × Value → H} {W : World} {b0 base : Nat} {r : Reach} {spare : Nat → Bool} {held : Bool} {v : Value} {d : DataW H} {p : List MemPlace}
    (hv : Value.okWide Try.prog W r b0 26 v) (h : DataW.Trod enc Try.prog W base spare held 26 v d p) (hf : Fits Try.prog 26 d) :
    ∃ (vM vN vL : Value) (l : List M3) (zs : List Int) (ss : List ByteArray), v = .agg #[vM, vN, vL] ∧ MatsIn W vM l ∧ NumsIn W vN zs ∧ TextsIn W vL ss ∧ Reach3 l zs ∧ RoomL vL := by
  obtain ⟨cs, rfl, hsz⟩ := okWide_struct Try.underlying26 hv
  obtain ⟨fuel, h⟩ := h
  obtain ⟨l⟩ := cs
  match l, hsz.trans cellsAsk3 with
  | [x0, x1, x2], _ =>
    obtain ⟨n0, y0, h0, f0⟩ := open_field Try.underlying26 h hf 0 rfl [x0] cellsMats rfl
    obtain ⟨n1, y1, h1, f1⟩ := open_field Try.underlying26 h hf 1 rfl [x1] cellsInts3 rfl
    obtain ⟨n2, y2, h2, f2⟩ := open_field Try.underlying26 h hf 2 rfl [x2] cellsStrs rfl
    obtain ⟨l, hl⟩ := matsIn_open Try.underlying22 Try.underlying30 cellsMat Try.underlying3 Try.underlying3 Try.underlying28 Try.underlying5 cellsByte3 rfl rfl rfl cellsInt3 cellsInt3 cellsBytes3 h0
    obtain ⟨zs, hz⟩ := numsIn_open Try.underlying23 Try.underlying3 cellsInt3 h1
    obtain ⟨ss, hs⟩ := textsIn_open Try.underlying24 Try.underlying9 cellsStr bytesStr h2 f2
    obtain ⟨r1, r2⟩ := matsFew_open Try.underlying22 Try.underlying30 cellsMat Try.underlying28 rfl cellsBytes3 bytesU8 h0 f0 hl
    have r3 := slice_reach Try.underlying23 h1 f1
    rw [bytesMat] at r1
    rw [bytesInt] at r3
    refine ⟨_, _, _, l, zs, ss, rfl, hl, hz, hs, ⟨by omega, ?_, r2⟩, slice_room Try.underlying24 h2⟩
    rcases hz.2 with ⟨e, _⟩ | ⟨b, off, cap, e, _⟩
    · rw [e]; simp
    · rw [e] at r3; simp only [lenV] at r3; omega

/-- What Texts comes to, bounded. -/
def TotalFew (ss : List ByteArray) (w : World) (e : Ending) (w' : World) : Prop := ∃ r : Nat, (r = total ss ∨ 1048576 ≤ r) ∧ r ≤ 200000000000000 ∧ e = .returned (.int .i64 (r : Int)) ∧ w = w'

set_option maxRecDepth 100000 in
set_option maxHeartbeats 400000 in
theorem texts_few (v : Value) (ss : List ByteArray) (w : World) (h : TextsIn w v ss) :
    Calls Try.prog 37 #[v] w (TotalFew ss w) := by
  obtain ⟨p, cap, rfl, h16, hs, hS⟩ := h
  have HS := Lib.hid hS
  have HB := Lib.hid hs
  clear hS hs
  go_enter Try.func37, Try.ntmps37
  go_wp2_with fail
  go_loop [3, 4] (fun n i => ∃ k m : Nat, i = .int .i64 k ∧ n = .int .i64 m ∧ k ≤ ss.length ∧ m ≤ 200000000000000 ∧ Hid (m = ss.length + ((ss.take k).map ByteArray.size).sum)) (fun _ i => ss.length - (intOf i).toNat)
  case atStart => exact ⟨0, ss.length, rfl, rfl, by omega, by omega, by simp [Hid]⟩
  case round =>
    obtain ⟨k, m, rfl, rfl, hk, hm, HM⟩ := hrel
    by_cases hlt : k < ss.length
    · obtain ⟨b, off, s, rfl, hsz, HE, hcell⟩ := text_at HS.out HB.out hlt
      by_cases h20 : m < 1048576
      · have hd : decide ((m : Int) < 1048576) = true := by simp; omega
        go_wp2_with fail
        go_round
        case rel => exact ⟨k + 1, m + s.size, by go_num, by go_num, by omega, by omega, by rw [Hid, total_step hlt, ← HE.out, HM.out]; omega⟩
        case measure => simp [intOf]; omega
      · have hd : decide ((m : Int) < 1048576) = false := by simp; omega
        go_wp2_with fail
        go_ret
        exact ⟨m, Or.inr (by omega), by omega, rfl, rfl⟩
    · have hke : k = ss.length := by omega
      have HT : Hid (m = total ss) := by rw [Hid, HM.out, hke, List.take_length]; rfl
      go_wp2_with fail
      all_goals
        go_ret
        exact ⟨m, Or.inl HT.out, by omega, rfl, rfl⟩

/-- What Heavy tells: where it says no, little came in. -/
def HeavyOut3 (l : List M3) (zs : List Int) (ss : List ByteArray) (w : World) (e : Ending) (w' : World) : Prop :=
  ∃ b : Bool, e = .returned (.bool b) ∧ (b = false → l.length ≤ 3000 ∧ zs.length ≤ 3000 ∧ total ss ≤ 3000 ∧ ∀ k, k < l.length → lenV (l.getD k (0, 0, .slice none 0 0)).2.2 ≤ 3000) ∧ Below w.heap.size w w'

set_option maxRecDepth 100000 in
set_option maxHeartbeats 2000000 in
theorem heavy3_any (vM vN vL : Value) (l : List M3) (zs : List Int) (ss : List ByteArray) (w : World) (hM : MatsIn w vM l) (hN : NumsIn w vN zs) (hL : TextsIn w vL ss) (hR : Reach3 l zs) :
    Calls Try.prog 9 #[.agg #[vM, vN, vL]] w (HeavyOut3 l zs ss w) := by
  have tA := Three.new w vM vN vL 26
  have hbe := (Below.refl w.heap.size w).alloc (Nat.le_refl _) (.cells #[vM, vN, vL] 26)
  have TA := Lib.hid tA
  have HBE := Lib.hid hbe
  have HM := Lib.hid (hM.below hbe)
  have HT := Lib.hid (textsIn_below hL hbe)
  obtain ⟨hr1, hr2, hr3⟩ := hR
  have HR3 := Lib.hid hr3
  obtain ⟨zp, zc, rfl⟩ : ∃ p c, vN = .slice p zs.length c := by
    rcases hN.2 with ⟨e, p, c, rfl⟩ | ⟨b, o, c, rfl, _⟩
    · exact ⟨_, _, by rw [e]; rfl⟩
    · exact ⟨_, _, rfl⟩
  obtain ⟨A, c, rfl, hll, _⟩ := hM
  obtain ⟨pL, kL, rfl, _⟩ := hL
  clear tA hbe hN hr3
  go_enter Try.func9, Try.ntmps9
  go_upto_region 1 with (fail)
  generalize w.alloc (.cells #[.slice A l.length c, .slice zp zs.length zc, .slice pL ss.length kL] 26) = W0 at *
  obtain ⟨a0, a1, a2, _, _, _⟩ := TA.out
  have ws : IntKind.i64.wrap ((l.length : Int) + (zs.length : Int)) = (l.length : Int) + (zs.length : Int) := IntWalk.i64_in _ (by omega)
  go_region_held3 (fun W' => W'.cell? ⟨w.heap.size, 0, none⟩ = some (.slice A l.length c) ∧ W'.cell? ⟨w.heap.size, 1, none⟩ = some (.slice zp zs.length zc) ∧ W'.cell? ⟨w.heap.size, 2, none⟩ = some (.slice pL ss.length kL)) (go_keep)
    (first | (go_at_call 37; refine (texts_few _ ss _ (textsIn_below HT.out (Below.drew (Below.refl _ _)))).mono ?_; rintro e w' ⟨r, hr, hr2, rfl, rfl⟩))
  have HRT := Lib.hid hr
  have ws2 : IntKind.i64.wrap ((l.length : Int) + (zs.length : Int) + (r : Int)) = ((l.length + zs.length + r : Nat) : Int) := by rw [IntWalk.i64_in _ (by omega)]; omega
  rw [ws2]
  clear hr ws ws2
  obtain ⟨z0, hz0⟩ : ∃ z0, z0 = l.length + zs.length + r := ⟨_, rfl⟩
  rw [← hz0]
  have HZ0 := Lib.hid hz0
  have hz1 : z0 ≤ 600000000000000 := by omega
  clear hz0
  go_wp2_with fail
  go_loopw [3, 4] (fun nn ii wr => ∃ (i z : Nat), ii = .int .i64 i ∧ nn = .int .i64 z ∧ i ≤ l.length ∧ z0 ≤ z ∧ z ≤ 600000000000000 ∧ Hid (∀ k, k < i → lenV (l.getD k (0, 0, .slice none 0 0)).2.2 ≤ z) ∧ wr = W0.drew) (fun _ ii _ => l.length - (intOf ii).toNat)
  case atStart => exact ⟨0, z0, rfl, rfl, by omega, by omega, hz1, Lib.hid (by intro k hk; omega), rfl⟩
  case round =>
    obtain ⟨i, z, rfl, rfl, hi, hzz, hzb, HK, rfl⟩ := hrel
    by_cases hlt : i < l.length
    · obtain ⟨A', c', e, _, hk⟩ := HM.out
      cases e
      obtain ⟨b, o, rfl, hb, k0, k1, k2, ⟨ns, hns, A3, k3, e3, h3, h4⟩, _⟩ := hk i hlt
      have hlr := HR3.out i hlt
      have HLV : Hid (lenV (l.getD i (0, 0, .slice none 0 0)).2.2 = ns.length) := by rw [Hid, e3]; rfl
      rw [HLV.out] at hlr
      rw [e3] at k2
      have i0 : (0 : Int) ≤ (i : Int) := by omega
      have i1 : (i : Int) < (l.length : Int) := by omega
      clear k0 k1 hns hk e3
      by_cases hz : z < 1048576
      · have hzd : decide ((z : Int) < 1048576) = true := by simp; omega
        go_wp2_with fail
        go_roundw
        case rel => exact ⟨i + 1, z + ns.length, by go_num, by go_num, by omega, by omega, by omega, Lib.hid (by
          intro k hk
          by_cases hki : k = i
          · rw [hki, HLV.out]; omega
          · have := HK.out k (by omega); omega), by first | trivial | rfl⟩
        case measure => simp [intOf]; omega
      · have hzd : decide ((z : Int) < 1048576) = false := by simp; omega
        have hzt : decide ((3000 : Int) < (z : Int)) = true := by simp; omega
        go_wp2_with fail
        go_ret
        exact ⟨true, rfl, fun h => (nomatch h), HBE.out.drew⟩
    · have hid : decide ((i : Int) < (l.length : Int)) = false := by simp; omega
      obtain ⟨b, hb⟩ : ∃ b, b = decide ((3000 : Int) < (z : Int)) := ⟨_, rfl⟩
      have HB := Lib.hid hb
      clear hb
      go_wp2_with fail
      go_ret
      refine ⟨_, rfl, fun h => ?_, HBE.out.drew⟩
      have hz3 : z ≤ 3000 := by
        have := of_decide_eq_false h
        omega
      have h0 := HZ0.out
      have hrt := HRT.out
      refine ⟨by omega, by omega, by omega, fun k hk => ?_⟩
      have := HK.out k (by omega)
      omega
end Go.Proofs.Ytibinkppbdeofaa

/- Copies of bytes and of matrices, that stand while other blocks are written. -/

namespace Go.Proofs.Ytibinkppbdeofaa
open Go.ChangeShapes Go.WideShapes Go.ChangeAt Go.RowKit Go.Joins
set_option linter.unusedVariables false
set_option linter.unusedSimpArgs false

theorem RowIs.set {w : World} {X o c n size : Nat} {xs : List Value} (h : RowIs w (.slice (some ⟨X, o, none⟩) n c) n size xs) {d : Addr} (hd : d.block ≠ X) (u : Value) : RowIs (w.setCell d u) (.slice (some ⟨X, o, none⟩) n c) n size xs := by
  obtain ⟨h1, A, c', e, h2⟩ := h
  cases e
  refine ⟨h1, _, _, rfl, fun hn => ?_⟩
  obtain ⟨b, o', e, hlt, hc⟩ := h2 hn
  cases e
  refine ⟨_, _, rfl, by simp only [World.size_setCell]; exact hlt, fun j y hy => ?_⟩
  rw [World.cell?_setCell_other _ _ _ _ (by intro e; apply hd; rw [e])]
  exact hc j y hy
/-- Bytes of one's own: those of block X, if there are any. -/
def OwnB (w : World) (X : Nat) (v : Value) (ns : List Nat) : Prop := BytesV w v ns ∧ RoomV v ns ∧ (ns.length = 0 ∨ (X < w.heap.size ∧ ∃ c, v = .slice (some ⟨X, 0, none⟩) ns.length c))
theorem OwnB.below {w w' : World} {X : Nat} {v : Value} {ns : List Nat} (h : OwnB w X v ns) (hb : Below w.heap.size w w') : OwnB w' X v ns :=
  ⟨h.1.below hb, h.2.1, h.2.2.imp id fun ⟨h1, h2⟩ => ⟨Nat.lt_of_lt_of_le h1 hb.size, h2⟩⟩
theorem OwnB.set {w : World} {X : Nat} {v : Value} {ns : List Nat} (h : OwnB w X v ns) {d : Addr} (hd : ns.length = 0 ∨ d.block ≠ X) (u : Value) : OwnB (w.setCell d u) X v ns := by
  obtain ⟨h1, h2, h3⟩ := h
  by_cases h0 : ns.length = 0
  · obtain ⟨⟨_, A, c, rfl, _⟩, h5⟩ := h1
    refine ⟨⟨⟨by simp, A, c, rfl, fun hn => absurd hn (by omega)⟩, h5⟩, h2, Or.inl h0⟩
  · obtain ⟨hX, c, rfl⟩ := h3.resolve_left h0
    exact ⟨⟨h1.1.set (hd.resolve_left h0) u, h1.2⟩, h2, Or.inr ⟨by simp only [World.size_setCell]; exact hX, c, rfl⟩⟩
/-- A store into a cell that holds no byte leaves bytes as they are. -/
theorem bytesV_apart {w : World} {v y : Value} {ns : List Nat} {d : Addr} (h : BytesV w v ns) (hy : w.cell? d = some y) (hne : ∀ x : Int, y ≠ .int .u8 x) (u : Value) : BytesV (w.setCell d u) v ns := by
  obtain ⟨⟨h1, A, c, e, h2⟩, h3⟩ := h
  refine ⟨⟨h1, A, c, e, fun hn => ?_⟩, h3⟩
  obtain ⟨b, o, eA, hlt, hc⟩ := h2 hn
  refine ⟨b, o, eA, by rw [World.size_setCell]; exact hlt, fun j z hz => ?_⟩
  have hcz := hc j z hz
  rw [World.cell?_setCell_other _ _ _ _ (by
    intro e
    rw [← e, hy] at hcz
    obtain ⟨n, _, rfl⟩ := List.mem_map.1 (List.mem_of_getElem? hz)
    exact hne _ (Option.some.inj hcz))]
  exact hcz
theorem bytesV_three {w : World} {v : Value} {ns : List Nat} {B : Nat} {a b : Int} {A : Option Addr} {n c : Nat} (h : BytesV w v ns) (t : Three w B (.int .i64 a) (.int .i64 b) (.slice A n c)) (u0 u1 u2 : Value) :
    BytesV (((w.setCell ⟨B, 0, none⟩ u0).setCell ⟨B, 1, none⟩ u1).setCell ⟨B, 2, none⟩ u2) v ns := by
  refine bytesV_apart (bytesV_apart (bytesV_apart h t.c0 (by simp) u0) (y := .int .i64 b) ?_ (by simp) u1) (y := .slice A n c) ?_ (by simp) u2
  · rw [World.cell?_setCell_other _ _ _ _ (by simp)]; exact t.c1
  · rw [World.cell?_setCell_other _ _ _ _ (by simp), World.cell?_setCell_other _ _ _ _ (by simp)]; exact t.c2
theorem own_of_row {w : World} {B : Nat} {e : TypeId} {v : Value} {ns : List Nat} (h : w.ownsRow B e 1 v ns.length (u8s ns)) (hb : ∀ x ∈ ns, x < 256) : ∃ X, OwnB w X v ns ∧ (ns.length = 0 ∨ B ≤ X) := by
  have hr := RowIs.of_own h
  by_cases h0 : ns.length = 0
  · refine ⟨0, ⟨⟨hr, hb⟩, ?_, Or.inl h0⟩, Or.inl h0⟩
    obtain ⟨_, ⟨rfl, _⟩ | ⟨g, cap, cur, rfl, _, _, h1, h2, _⟩⟩ := h
    · exact ⟨none, 0, by rw [h0], by omega, by omega⟩
    · exact ⟨_, _, rfl, h1, by unfold maxLen at h2; omega⟩
  · obtain ⟨g, cap, rfl, hB, hlt, h1, h2, _, _⟩ := own_blk h (by omega) hb
    exact ⟨g, ⟨⟨hr, hb⟩, ⟨_, _, rfl, h1, by unfold maxLen at h2; omega⟩, Or.inr ⟨hlt, cap, rfl⟩⟩, Or.inr hB⟩
theorem copyMat_any (R C : Int) (v : Value) (ns : List Nat) (w : World) (h : BytesV w v ns) (hl : ns.length ≤ 100000) :
    Calls Try.prog 22 #[matV R C v] w fun e w' => ∃ r X, e = .returned (matV R C r) ∧ OwnB w' X r ns ∧ (ns.length = 0 ∨ w.heap.size ≤ X) ∧ Below w.heap.size w w' :=
  (copyMatrix_any R C v ns w h hl).mono fun e w' ⟨r, h1, h2, h3⟩ => by
    obtain ⟨X, hX, hB⟩ := own_of_row h2 h.2
    exact ⟨r, X, h1, hX, hB, h3⟩
end Go.Proofs.Ytibinkppbdeofaa

/- Whether some row's number is none: slices.ContainsFunc over numbers, walked. -/

namespace Go.Proofs.Ytibinkppbdeofaa
open Go.ChangeShapes Go.WideShapes Go.ChangeAt Go.RowKit Go.Joins
set_option linter.unusedVariables false
set_option linter.unusedSimpArgs false

/-- A row's number that is none. -/
def badI (R x : Int) : Bool := decide (x < 0) || decide (R ≤ x)

set_option maxRecDepth 100000 in
theorem pickBad_is (x R : Int) (B : Nat) (b : Bool) (hb : badI R x = b) (w : World) (h : w.cell? ⟨B, 0, none⟩ = some (.int .i64 R)) :
    Calls Try.prog 49 #[.int .i64 x, .pointer (some ⟨B, 0, none⟩)] w fun e w' => e = .returned (.bool b) ∧ w = w' := by
  unfold badI at hb
  by_cases h1 : x < 0
  · have hd : decide (x < 0) = true := decide_eq_true h1
    rw [hd] at hb
    have HB : Hid (b = true) := by rw [Hid, ← hb]; rfl
    clear hb h1
    go_enter Try.func49, Try.ntmps49
    go_wp2_with fail
    go_ret
    exact ⟨by rw [HB.out]; rfl, rfl⟩
  · have hd : decide (x < 0) = false := decide_eq_false h1
    rw [hd] at hb
    by_cases h2 : R ≤ x
    · have he : decide (R ≤ x) = true := decide_eq_true h2
      rw [he] at hb
      have HB : Hid (b = true) := by rw [Hid, ← hb]; rfl
      clear hb h1
      go_enter Try.func49, Try.ntmps49
      go_wp2_with fail
      go_ret
      exact ⟨by rw [HB.out]; rfl, rfl⟩
    · have he : decide (R ≤ x) = false := decide_eq_false h2
      rw [he] at hb
      have HB : Hid (b = false) := by rw [Hid, ← hb]; rfl
      clear hb h1
      go_enter Try.func49, Try.ntmps49
      go_wp2_with fail
      go_ret
      exact ⟨by rw [HB.out]; rfl, rfl⟩

/-- Where the first such one is, or -1. -/
def BadAt (R : Int) (zs : List Int) (w : World) (e : Ending) (w' : World) : Prop := ∃ p : Int, e = .returned (.int .i64 p) ∧ Hid (decide (0 ≤ p) = zs.any (badI R)) ∧ w = w'

set_option maxRecDepth 100000 in
set_option maxHeartbeats 1000000 in
theorem indexBad_any (v : Value) (zs : List Int) (R : Int) (B : Nat) (w : World) (hN : NumsIn w v zs) (h : w.cell? ⟨B, 0, none⟩ = some (.int .i64 R)) :
    Calls Try.prog 66 #[v, .func (.func 49) #[] #[.pointer (some ⟨B, 0, none⟩)]] w (BadAt R zs w) := by
  have hbd := hN.1
  obtain ⟨p, cap, rfl, hS⟩ := numsIn_slice hN
  have hl := hS.1
  have HS := Lib.hid hS
  have HBD := Lib.hid hbd
  clear hN hS hbd
  go_enter Try.func66, Try.ntmps66
  go_wp2_with fail
  go_loop [8] (fun i => ∃ k : Nat, i = .int .i64 k ∧ k ≤ zs.length ∧ Hid ((zs.take k).any (badI R) = false)) (fun i => zs.length - (intOf i).toNat)
  case atStart => exact ⟨0, rfl, by omega, by simp [Hid]⟩
  case round =>
    obtain ⟨k, rfl, hk, HK⟩ := hrel
    by_cases hlt : k < zs.length
    · obtain ⟨b, off, x, rfl, hx, HX, hcell⟩ := num_at HS.out HBD.out hlt
      have i0 : (0 : Int) ≤ (k : Int) := by omega
      have i1 : (k : Int) < (zs.length : Int) := by omega
      have HT : Hid ((zs.take (k + 1)).any (badI R) = badI R x) := by
        rw [Hid, List.take_succ_eq_append_getElem hlt, List.any_append, HK.out]
        simp [HX.out, List.getD, hlt]
      cases hb : badI R x
      · have HBX := Lib.hid hb
        clear hb
        go_wp2_with (first | (go_at_call 49; refine (pickBad_is x R B false HBX.out _ h).mono ?_; rintro e w' ⟨rfl, rfl⟩))
        go_round
        case rel => exact ⟨k + 1, by go_num, by omega, by rw [Hid, HT.out]; exact HBX.out⟩
        case measure => simp [intOf]; omega
      · have HBX := Lib.hid hb
        clear hb
        go_wp2_with (first | (go_at_call 49; refine (pickBad_is x R B true HBX.out _ h).mono ?_; rintro e w' ⟨rfl, rfl⟩))
        go_ret
        refine ⟨_, rfl, ?_, rfl⟩
        rw [Hid, decide_eq_true (by omega)]
        symm
        rw [List.any_eq_true]
        have h1 := HT.out
        rw [HBX.out, List.any_eq_true] at h1
        obtain ⟨y, hy, hyb⟩ := h1
        exact ⟨y, List.mem_of_mem_take hy, hyb⟩
    · have hke : k = zs.length := by omega
      have HT : Hid (zs.any (badI R) = false) := by
        have := HK.out
        rw [hke, List.take_length] at this
        exact this
      clear hke
      go_wp2_with fail
      go_ret
      exact ⟨_, rfl, by rw [Hid, HT.out]; rfl, rfl⟩

set_option maxRecDepth 100000 in
theorem containsBad_is (v : Value) (zs : List Int) (R : Int) (B : Nat) (b : Bool) (hb : zs.any (badI R) = b) (w : World) (hN : NumsIn w v zs) (h : w.cell? ⟨B, 0, none⟩ = some (.int .i64 R)) :
    Calls Try.prog 50 #[v, .func (.func 49) #[] #[.pointer (some ⟨B, 0, none⟩)]] w fun e w' => e = .returned (.bool b) ∧ w = w' := by
  have HI := Lib.hid (indexBad_any v zs R B w hN h)
  have HB := Lib.hid hb
  clear hN h hb
  go_enter Try.func50, Try.ntmps50
  go_wp2_with fail
  refine HI.out.mono ?_
  rintro e w' ⟨p, rfl, HP, rfl⟩
  go_wp2_with fail
  go_ret
  exact ⟨by show Ending.returned (.bool (decide (0 ≤ p))) = _; rw [HP.out, HB.out], rfl⟩
end Go.Proofs.Ytibinkppbdeofaa
