/- Texts that the code made, or that came in; copies of lists of texts. -/
import Derived.Test.YtiminahobifomaaDoorRow
import Derived.StillTailTactics
import Derived.BigQuiet
import Derived.BigRegion
import Derived.OwnWalk
namespace Go.Proofs.YtiminahobifomaaDoor
open Go.ChangeShapes Go.WideShapes Go.ChangeAt Go.RowKit Go.Joins
set_option linter.unusedVariables false
set_option linter.unusedSimpArgs false

theorem cell_one_new' (w : World) (a : Value) (t : TypeId) : ∀ j u, [a][j]? = some u → (w.alloc (.cells #[a] t)).cell? ((⟨w.heap.size, 0, none⟩ : Addr).add j) = some u := by
  intro j u hj
  rw [Go.WideShapes.add_plain, Nat.zero_add, cell_of_row _ _ _ _ _ _ (heap_alloc_new w _)]
  simpa using hj
theorem infoStr6 : (Tryd.prog.info? 9).map (fun i => (i.zero, i.size, i.bytes)) = some (some (.string ByteArray.empty), 1, 16) := by kernel_rfl
/-- A row that the code owns stands as long as nothing that was there is changed. -/
theorem own_below {w w' : World} {B k n : Nat} {e : TypeId} {v : Value} {xs : List Value} (h : w.ownsRow B e k v n xs) (hb : Below w.heap.size w w') : w'.ownsRow B e k v n xs := by
  refine ⟨h.1, ?_⟩
  rcases h.2 with h2 | ⟨g, cap, cur, h1, h2, h3, h4⟩
  · exact Or.inl h2
  · refine Or.inr ⟨g, cap, cur, h1, h2, ?_, h4⟩
    rw [hb.block g (Array.getElem?_eq_some_iff.1 h3).1]; exact h3
theorem own_shape {w : World} {B k n : Nat} {e : TypeId} {v : Value} {xs : List Value} (h : w.ownsRow B e k v n xs) : ∃ A c, v = .slice A n c := by
  rcases h.2 with ⟨rfl, rfl⟩ | ⟨g, cap, cur, rfl, _⟩
  · exact ⟨_, _, rfl⟩
  · exact ⟨_, _, rfl⟩
/-- Texts that the code made. -/
def Strs6 (w : World) (v : Value) (L : List ByteArray) : Prop := RowIs w v L.length 1 (L.map Value.string)
theorem Strs6.at_ {w : World} {A : Option Addr} {c : Nat} {L : List ByteArray} (h : Strs6 w (.slice A L.length c) L) {k : Nat} (hk : k < L.length) :
    ∃ b o, A = some ⟨b, o, none⟩ ∧ b < w.heap.size ∧ w.cell? ⟨b, o + k, none⟩ = some (.string (L[k]'hk)) := by
  obtain ⟨b, o, c', e, hlt, hc⟩ := RowIs.at_ h hk
  cases e
  refine ⟨b, o, rfl, hlt, ?_⟩
  obtain ⟨u, h1, h2⟩ := hc 0 (by omega)
  simp [hk] at h1
  rw [Nat.mul_one, Nat.add_zero] at h2
  rw [h2, h1]
theorem cell_three_new (w : World) (a b c : Value) (t : TypeId) : ∀ j u, [a, b, c][j]? = some u → (w.alloc (.cells #[a, b, c] t)).cell? ((⟨w.heap.size, 0, none⟩ : Addr).add j) = some u := by
  intro j u hj
  rw [Go.WideShapes.add_plain, Nat.zero_add, cell_of_row _ _ _ _ _ _ (heap_alloc_new w _)]
  simpa using hj
theorem take_snoc {L : List ByteArray} {k : Nat} {s : ByteArray} (h : k < L.length) (hs : s = L.getD k ByteArray.empty) : L.take (k + 1) = L.take k ++ [s] := by
  rw [hs, List.take_add_one]
  simp [List.getD, h]

theorem Strs6.below {w w' : World} {v : Value} {l : List ByteArray} (h : Strs6 w v l) (hb : Below w.heap.size w w') : Strs6 w' v l := RowIs.below h hb
theorem Strs6.shape {w : World} {v : Value} {l : List ByteArray} (h : Strs6 w v l) : ∃ A c, v = .slice A l.length c := by
  obtain ⟨_, A, c, rfl, _⟩ := h
  exact ⟨A, c, rfl⟩
/-- What came in, too. -/
theorem TextsIn.row {w : World} {v : Value} {ss : List ByteArray} (h : TextsIn w v ss) : Strs6 w v ss := by
  obtain ⟨p, cap, rfl, _, _, hS⟩ := h
  refine ⟨by simp, p, cap, rfl, fun hn => ?_⟩
  obtain ⟨b, off, hp, hlt, _⟩ := hS.2 0 hn
  subst hp
  refine ⟨b, off, rfl, hlt, fun j u hu => ?_⟩
  have hj : j < ss.length := by simpa using (List.getElem?_eq_some_iff.1 hu).1
  obtain ⟨b', off', hp', _, hc⟩ := hS.2 j hj
  cases hp'
  rw [hc, ← hu]
  simp [List.getD, hj]
theorem Strs6.take {w : World} {A : Option Addr} {c c' n : Nat} {L : List ByteArray} (h : Strs6 w (.slice A L.length c) L) (hn : n ≤ L.length) : Strs6 w (.slice A n c') (L.take n) := by
  obtain ⟨_, A', c1, e, hc⟩ := h
  cases e
  have hl : (L.take n).length = n := by simp; omega
  refine ⟨by simp, A, c', by rw [hl], fun h0 => ?_⟩
  rw [hl] at h0
  obtain ⟨b, o, rfl, hlt, hcell⟩ := hc (by omega)
  refine ⟨b, o, rfl, hlt, fun j u hu => hcell j u ?_⟩
  rw [List.getElem?_map, List.getElem?_take] at hu
  rw [List.getElem?_map]
  split at hu
  · exact hu
  · simp at hu

set_option maxRecDepth 100000 in
set_option maxHeartbeats 1000000 in
theorem copyStrs_any (v : Value) (ss : List ByteArray) (w : World) (h : TextsIn w v ss) (hl : ss.length ≤ 6000) :
    Calls Tryd.prog 10 #[v] w fun e w' => ∃ r, e = .returned r ∧ w'.ownsRow w.heap.size 9 1 r ss.length (ss.map Value.string) ∧ Below w.heap.size w w' := by
  obtain ⟨i0, hi, hz0, hz1, hz2⟩ := info_parts infoStr6
  obtain ⟨p, cap, rfl, h16, hs, hS⟩ := h
  have HS := Lib.hid hS
  have HB := Lib.hid hs
  clear hS hs
  go_enter Tryd.func10, Tryd.ntmps10
  go_wp2_with fail
  go_loopw [3, 4] (fun l i wr => ∃ k : Nat, i = .int .i64 k ∧ k ≤ ss.length ∧ wr.ownsRow w.heap.size 9 1 l k ((ss.take k).map Value.string) ∧ Below w.heap.size w wr) (fun _ i _ => ss.length - (intOf i).toNat)
  case atStart => exact ⟨0, rfl, by omega, World.ownsRow_nil _ _ _ _, Below.refl _ _⟩
  case round =>
    obtain ⟨k, rfl, hk, hown, hwr⟩ := hrel
    by_cases hlt : k < ss.length
    · obtain ⟨b, off, s, rfl, hsz, HE, hcell⟩ := text_at (HS.out.below hwr) HB.out hlt
      have HT := Lib.hid (take_snoc hlt HE.out)
      clear HE
      go_wp2_with (first | (at_builtin; refine wpList_append_own _ rfl _ _ 23 rfl w.heap.size 9 i0 (.string ByteArray.empty) 1 16 Tryd.underlying23 hi hz0 hz1 hz2 rfl (by decide) _ _ _ rfl (hown.alloc _) ⟨wr.heap.size, 0, none⟩ 1 1 [.string s] rfl rfl ?c1 ?c2 ?c3 ?c4 ?c5 ?_) | go_in)
      case c1 => exact cell_one_new' _ _ _
      case c2 => intro u hu; simp at hu; subst hu; rfl
      case c3 => unfold maxLen; omega
      case c4 => omega
      case c5 => have := hwr.size; simp; omega
      all_goals
        intro v' w1 hown' hgrow _
        have hbx := append_below hwr hown hgrow
        clear hown hgrow hwr hcell
        go_wp2_with fail
        go_roundw
        case rel => exact ⟨k + 1, by go_num, by omega, by rw [HT.out, List.map_append, List.map_take]; exact hown', hbx⟩
        case measure => simp [intOf]; omega
    · have hke : k = ss.length := by omega
      rw [hke, List.take_length] at hown
      clear hke
      go_wp2_with fail
      all_goals
        go_ret
        exact ⟨_, rfl, hown, hwr⟩
end Go.Proofs.YtiminahobifomaaDoor
