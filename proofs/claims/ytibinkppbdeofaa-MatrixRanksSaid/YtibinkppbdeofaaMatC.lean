/- Bytes copied and compared, cloned; matrices copied and compared; walked. -/
import Derived.Test.YtibinkppbdeofaaMatB
import Derived.Lib.SliceRun
namespace Go.Proofs.Ytibinkppbdeofaa
open Go.ChangeShapes Go.WideShapes Go.ChangeAt Go.RowKit Go.Joins
set_option linter.unusedVariables false
set_option linter.unusedSimpArgs false

theorem infoU8 : (Try.prog.info? 5).map (fun i => (i.zero, i.size, i.bytes)) = some (some (.int .u8 0), 1, 1) := by kernel_rfl
def u8s (ns : List Nat) : List Value := ns.map fun n : Nat => Value.int .u8 (n : Int)
theorem u8s_take {ns : List Nat} {k : Nat} (h : k < ns.length) : u8s (ns.take (k + 1)) = u8s (ns.take k) ++ [.int .u8 ((ns.getD k 0 : Nat) : Int)] := by
  rw [List.take_succ_eq_append_getElem h, u8s, List.map_append, ← List.getElem_eq_getD (h := h)]; rfl
theorem u8s_length (ns : List Nat) : (u8s ns).length = ns.length := by simp [u8s]
/-- A row of bytes that the code owns may be written. -/
theorem own_blk {w : World} {B : Nat} {e : TypeId} {v : Value} {n : Nat} {ns : List Nat} (h : w.ownsRow B e 1 v n (u8s ns)) (h0 : 0 < n) (hb : ∀ x ∈ ns, x < 256) :
    ∃ g cap, v = .slice (some ⟨g, 0, none⟩) n cap ∧ B ≤ g ∧ g < w.heap.size ∧ n ≤ cap ∧ cap ≤ maxLen ∧ n = ns.length ∧ BytesBlk w g ns := by
  have hn : n = ns.length := by have := h.1; rw [u8s_length] at this; omega
  have hc := h
  obtain ⟨_, ⟨rfl, rfl⟩ | ⟨g, cap, cur, rfl, hB, hh, h1, h2, h3, h4⟩⟩ := h
  · omega
  · refine ⟨g, cap, rfl, hB, (Array.getElem?_eq_some_iff.1 hh).1, h1, h2, hn, fun i hi => ⟨getD_lt hb hi, ?_, ?_⟩⟩
    · have := hc.cells (g := g) rfl i (.int .u8 ((ns.getD i 0 : Nat) : Int)) (by simp [u8s, List.getD, hi])
      rw [Go.WideShapes.add_plain, Nat.zero_add] at this
      exact this
    · have hi2 : i < cur.size := by rw [h3]; omega
      simp [World.frozen?, hh, hi2]

set_option maxRecDepth 100000 in
set_option maxHeartbeats 1000000 in
theorem copyBytes_any (v : Value) (ns : List Nat) (w : World) (h : BytesV w v ns) (hl : ns.length ≤ 100000) :
    Calls Try.prog 48 #[v] w fun e w' => ∃ r, e = .returned r ∧ w'.ownsRow w.heap.size 5 1 r ns.length (u8s ns) ∧ Below w.heap.size w w' := by
  obtain ⟨i0, hi, hz0, hz1, hz2⟩ := info_parts infoU8
  obtain ⟨A, cap, rfl⟩ := h.shape
  have HS := Lib.hid h
  clear h
  go_enter Try.func48, Try.ntmps48
  go_wp2_with fail
  go_loopw [3, 4] (fun l i wr => ∃ k : Nat, i = .int .i64 k ∧ k ≤ ns.length ∧ wr.ownsRow w.heap.size 5 1 l k (u8s (ns.take k)) ∧ Below w.heap.size w wr) (fun _ i _ => ns.length - (intOf i).toNat)
  case atStart => exact ⟨0, rfl, by omega, World.ownsRow_nil _ _ _ _, Below.refl _ _⟩
  case round =>
    obtain ⟨k, rfl, hk, hown, hwr⟩ := hrel
    by_cases hlt : k < ns.length
    · obtain ⟨b, off, rfl, hbl, hcell⟩ := (HS.out.below hwr).at_ hlt
      have HT := Lib.hid (u8s_take hlt)
      generalize ns.getD k 0 = x at hcell HT
      have j0 : (0 : Int) ≤ (k : Int) := by omega
      have j1 : (k : Int) < (ns.length : Int) := by omega
      go_wp2_with (first | (at_builtin; refine wpList_append_own _ rfl _ _ 28 rfl w.heap.size 5 i0 (.int .u8 0) 1 1 Try.underlying28 hi hz0 hz1 hz2 rfl (by decide) _ _ _ rfl (hown.alloc _) ⟨wr.heap.size, 0, none⟩ 1 1 [.int .u8 (x : Int)] rfl rfl ?c1 ?c2 ?c3 ?c4 ?c5 ?_) | go_in)
      case c1 => exact cell_one_new' _ _ _
      case c2 => intro u hu; simp at hu; subst hu; rfl
      case c3 => unfold maxLen; omega
      case c4 => omega
      case c5 => have := hwr.size; simp; omega
      all_goals
        intro v' w1 hown' hgrow _
        have hbx := append_below hwr hown hgrow
        clear hown hgrow hwr hcell
        go_wp2_with fail
        go_roundw
        case rel => exact ⟨k + 1, by go_num, by omega, by rw [HT.out]; exact hown', hbx⟩
        case measure => simp [intOf]; omega
    · have hke : k = ns.length := by omega
      rw [hke, List.take_length] at hown
      clear hke
      go_wp2_with fail
      all_goals
        go_ret
        exact ⟨_, rfl, hown, hwr⟩

set_option maxRecDepth 100000 in
set_option maxHeartbeats 1000000 in
theorem clone_any (b o n k : Nat) (ns : List Nat) (w : World) (h : BytesV w (.slice (some ⟨b, o, none⟩) n k) ns) (hl : ns.length ≤ 100000) (h0 : 0 < ns.length) :
    Calls Try.prog 60 #[.slice (some ⟨b, o, none⟩) n k] w fun e w' => ∃ r, e = .returned r ∧ w'.ownsRow w.heap.size 5 1 r ns.length (u8s ns) ∧ Below w.heap.size w w' := by
  obtain ⟨i0, hi, hz0, hz1, hz2⟩ := info_parts infoU8
  obtain ⟨A, cap, e⟩ := h.shape
  cases e
  have HS := Lib.hid h
  clear h
  have hnil : ∀ W, (binOp BinOp.eql 28 (.slice (some ⟨b, o, none⟩) ns.length k) (.slice none 0 0)).run Try.prog W = .ok (.bool false) W := fun W => Lib.run_eql_slice_nil W _ 5 (some ⟨b, o, none⟩) _ _ _ _ Try.underlying28
  go_enter Try.func60, Try.ntmps60
  have hown : (w.alloc (.cells #[] 5)).ownsRow w.heap.size 5 1 (.slice (some ⟨w.heap.size, 0, none⟩) 0 0) 0 [] := World.ownsRow_made w #[] 0 (Nat.le_refl _) (by unfold maxLen; omega) rfl
  have hnews : ∀ j u, (u8s ns)[j]? = some u → (w.alloc (.cells #[] 5)).cell? ((⟨b, o, none⟩ : Addr).add j) = some u := fun j u hj => by
    have hl' : j < ns.length := by have := (List.getElem?_eq_some_iff.1 hj).1; rw [u8s_length] at this; exact this
    obtain ⟨b', o', e, hbl, hc⟩ := HS.out.at_ hl'
    cases e
    rw [Go.WideShapes.add_plain, ((Below.refl w.heap.size w).alloc (Nat.le_refl _) _).cell (p := ⟨b, o + j, none⟩) hbl, hc, ← hj]
    simp [u8s, List.getD, hl']
  have hone : ∀ u ∈ u8s ns, u.oneCell' = true := fun u hu => by
    obtain ⟨x, _, rfl⟩ := List.mem_map.1 hu
    rfl
  go_wp2_with (first | (at_builtin; refine wpList_append_own _ rfl _ _ 28 rfl w.heap.size 5 i0 (.int .u8 0) 1 1 Try.underlying28 hi hz0 hz1 hz2 rfl (by decide) _ _ _ rfl hown ⟨b, o, none⟩ ns.length k (u8s ns) rfl (by rw [u8s_length, Nat.mul_one]) hnews hone ?c3 ?c4 ?c5 ?_) | go_in)
  case c3 => unfold maxLen; omega
  case c4 => omega
  case c5 => simp
  intro v' w1 hown' hgrow _
  have hb := ((Below.refl w.heap.size w).alloc (Nat.le_refl _) (.cells #[] 5)).grown hgrow (by simp) (fun k hk => (hown.lt k hk).1)
  clear hown hgrow hnews hone
  go_wp2_with fail
  go_ret
  exact ⟨_, rfl, hown', hb⟩
end Go.Proofs.Ytibinkppbdeofaa
