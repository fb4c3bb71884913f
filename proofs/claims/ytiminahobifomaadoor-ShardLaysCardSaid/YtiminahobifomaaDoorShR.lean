/- silolaw12.wakes; a row that the code owns, one cell set. -/
import Derived.Test.YtiminahobifomaaDoorShQ
namespace Go.Proofs.YtiminahobifomaaDoor
open Go.ChangeShapes Go.WideShapes Go.ChangeAt Go.RowKit Go.Joins Go.Shelf
set_option linter.unusedVariables false
set_option linter.unusedSimpArgs false

theorem heap_setCell_at (W : World) {g k : Nat} {cur : Array Value} {e : TypeId} {fr : Nat × Nat} (u : Value) (h : W.heap[g]? = some (.cells cur e fr)) : (W.setCell ⟨g, k, none⟩ u).heap[g]? = some (.cells (cur.setIfInBounds k u) e fr) := by
  obtain ⟨hlt, hk⟩ := Array.getElem?_eq_some_iff.1 h
  show (W.heap.modify g _)[g]? = _
  rw [Array.getElem?_eq_getElem (by rw [Array.size_modify]; exact hlt), Array.getElem_modify_self, hk]
  rfl
theorem own_setS {w : World} {B n g c k : Nat} {e : TypeId} {u : Value} {xs : List Value} (h : w.ownsRow B e 1 (.slice (some ⟨g, 0, none⟩) n c) n xs) : (w.setCell ⟨g, k, none⟩ u).ownsRow B e 1 (.slice (some ⟨g, 0, none⟩) n c) n (xs.set k u) := by
  rcases h.2 with ⟨hv, _⟩ | ⟨g', cap, cur, hv, hbg, hg, hnc, hcm, hcs, htake⟩
  · cases hv
  · injection hv with h1 h2 h3
    injection h1 with h1
    injection h1 with h1
    subst h1 h3
    refine ⟨by rw [List.length_set]; exact h.1, .inr ⟨g, c, cur.setIfInBounds k u, rfl, hbg, heap_setCell_at w u hg, hnc, hcm, by simpa using hcs, ?_⟩⟩
    rw [Array.toList_setIfInBounds, List.take_set, htake]
theorem own_farS {w : World} {B n g b c k : Nat} {e : TypeId} {u : Value} {xs : List Value} (h : w.ownsRow B e 1 (.slice (some ⟨g, 0, none⟩) n c) n xs) (hne : g ≠ b) : (w.setCell ⟨b, k, none⟩ u).ownsRow B e 1 (.slice (some ⟨g, 0, none⟩) n c) n xs := by
  rcases h.2 with ⟨hv, _⟩ | ⟨g', cap, cur, hv, hbg, hg, hnc, hcm, hcs, htake⟩
  · cases hv
  · injection hv with h1 h2 h3
    injection h1 with h1
    injection h1 with h1
    subst h1 h3
    exact ⟨h.1, .inr ⟨g, c, cur, rfl, hbg, by rw [Below.heap_setCell _ _ _ _ hne]; exact hg, hnc, hcm, hcs, htake⟩⟩
theorem turnK_len (l : List ByteArray) (k : Nat) : (turnK l k).length = l.length := by simp [turnK]
theorem turnK_join {l : List ByteArray} {k : Nat} (hs : ∀ s ∈ l, s.size = 64) (hk : k < 64 * 8 * l.length) : (joinB (turnK l k)).length = 64 * l.length := by
  rw [join_turn hs hk, List.length_set, joinB_len hs]
theorem own_at {w : World} {B n : Nat} {v : Value} {l : List ByteArray} (h : w.ownsRow B 9 1 v n (l.map Value.string)) (hn : l.length = n) (h1 : 1 ≤ n) :
    ∃ g c, v = .slice (some ⟨g, 0, none⟩) n c ∧ B ≤ g ∧ g < w.heap.size ∧ ∀ j (hj : j < l.length), w.cell? ⟨g, j, none⟩ = some (.string (l[j]'hj)) ∧ w.frozen? ⟨g, j, none⟩ = false := by
  rcases h.2 with ⟨_, h0⟩ | ⟨g, cap, cur, rfl, hbg, hg, hnc, hcm, hcs, htake⟩
  · omega
  · refine ⟨g, cap, rfl, hbg, (Array.getElem?_eq_some_iff.1 hg).1, fun j hj => ⟨?_, ?_⟩⟩
    · have hc := h.cells (g := g) rfl j (.string (l[j]'hj)) (by simp [hj])
      rw [Addr.add_lit, Nat.zero_add] at hc
      exact hc
    · unfold World.frozen?
      rw [hg]
      simp

set_option maxRecDepth 100000 in
set_option maxHeartbeats 2000000 in
theorem wakes12_any (w : World) : Calls Tryd.prog 11 #[] w fun e w' => e = .returned (.bool true) ∧ Below w.heap.size w w' := by
  have hm : (⟨3, 1, 0, ⟨#[97, 98]⟩⟩ : Sh).may = true := by decide
  have HT := Lib.hid (takeO_lay hm)
  have HL : Hid ((layS ⟨3, 1, 0, ⟨#[97, 98]⟩⟩).length = 1) := by rw [Hid, layS_len]; rfl
  have HS := Lib.hid (sectors_yes 3 1 0 ⟨#[97, 98]⟩ hm w)
  generalize layS ⟨3, 1, 0, ⟨#[97, 98]⟩⟩ = L at *
  go_enter Tryd.func11, Tryd.ntmps11
  go_wp2_with fail
  refine HS.out.mono ?_
  rintro e w1 ⟨r, rfl, hown, hb1⟩
  rw [HL.out] at hown
  obtain ⟨Ar, cr, rfl⟩ := own_shape hown
  have HO : Hid (OwnS w1 (.slice Ar 1 cr) L) := ⟨w.heap.size, by rw [HL.out]; exact hown⟩
  have HTK := Lib.hid (take12_any (.slice Ar 1 cr) L w1 HO.out (by rw [HL.out]; omega))
  rw [HT.out] at HTK
  have HB1 := Lib.hid hb1
  clear hb1 hown
  go_wp2_with fail
  refine HTK.out.mono ?_
  rintro e w2 ⟨rfl, hb2⟩
  have HB2 := Lib.hid (HB1.out.trans (hb2.mono HB1.out.size))
  have hbz := (Below.refl w2.heap.size w2).alloc (Nat.le_refl _) (.cells #[.int .i64 3, .int .i64 1, .int .i64 0, .string ⟨#[97, 98]⟩] 28)
  have HB3 := Lib.hid (HB2.out.trans (hbz.mono HB2.out.size))
  have HX := Lib.hid (Cell4.new w2 (.int .i64 3) (.int .i64 1) (.int .i64 0) (.string ⟨#[97, 98]⟩) 28)
  unfold takeV takeN shV
  dsimp only
  clear hb2 hbz HTK
  go_upto_region 3 with fail
  first
    | generalize w2.alloc (.cells #[.int .i64 3, .int .i64 1, .int .i64 0, .string ⟨#[97, 98]⟩] 28) = w3 at *
    | (trace_state; fail)
  obtain ⟨s0, s1, s2, s3, _, _, _, _⟩ := HX.out
  go_wp2_with (first | (go_at_call 7; refine (num12_any _ _).mono ?_; rintro e wn ⟨rfl, rfl⟩))
  go_ret
  exact ⟨rfl, HB3.out⟩
end Go.Proofs.YtiminahobifomaaDoor
