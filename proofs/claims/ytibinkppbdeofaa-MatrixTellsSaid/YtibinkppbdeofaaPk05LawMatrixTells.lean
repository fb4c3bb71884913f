/- Matrices: asked, made, copied, compared; a row of one; walked. -/
import Derived.Test.YtibinkppbdeofaaPk04LawMatrixTells
import Derived.Lib.SliceRun
namespace Go.Proofs.Ytibinkppbdeofaa
open Go.ChangeShapes Go.WideShapes Go.ChangeAt Go.RowKit Go.Joins
set_option linter.unusedVariables false
set_option linter.unusedSimpArgs false

set_option maxRecDepth 100000 in
set_option maxHeartbeats 1000000 in
theorem refMatrix_any (R C : Int) (A : Option Addr) (n k : Nat) (w : World) (hn : n ≤ 9223372036854775807) :
    Calls Try.prog 23 #[matV R C (.slice A n k)] w fun e w' => e = .returned (.bool (mayM R C n)) ∧ Below w.heap.size w w' := by
  have hF := (Below.refl w.heap.size w).alloc (Nat.le_refl _) (.cells #[.int .i64 R, .int .i64 C, .slice A n k] 30)
  have HF := Lib.hid hF
  clear hF
  unfold matV
  by_cases hR : 1 ≤ R ∧ R ≤ 16
  · have r1 := Lib.hid (decide_eq_true hR)
    by_cases hC : 1 ≤ C ∧ C ≤ 16
    · have c1 := Lib.hid (decide_eq_true hC)
      have hm := mul_small hR.1 hR.2 hC.1 hC.2
      obtain ⟨q, hq⟩ : ∃ q, q = ((n : Int) == R * C) := ⟨_, rfl⟩
      have H : Hid (mayM R C n = q) := by
        rw [Hid, hq, mayM]
        by_cases e : (n : Int) = R * C
        · rw [beq_iff_eq.2 e]; exact decide_eq_true ⟨hR.1, hR.2, hC.1, hC.2, e⟩
        · rw [beq_eq_false_iff_ne.2 e]; exact decide_eq_false fun h => e h.2.2.2.2
      have hw : IntKind.i64.wrap (R * C) = R * C := IntWalk.i64_in _ (by omega)
      have HQ := Lib.hid hq
      clear hR hC hq
      go_enter Try.func23, Try.ntmps23
      go_wp2_with (first | (go_at_call 25; refine (between3_any _ true (by first | exact r1.out | exact c1.out) _).mono ?_; rintro e w' ⟨rfl, rfl⟩))
      go_ret
      exact ⟨by rw [H.out, HQ.out]; rfl, HF.out⟩
    · have c1 := Lib.hid (decide_eq_false hC)
      have H : Hid (mayM R C n = false) := by rw [Hid, mayM]; exact decide_eq_false fun h => hC ⟨h.2.2.1, h.2.2.2.1⟩
      clear hR hC
      go_enter Try.func23, Try.ntmps23
      go_wp2_with (first | (go_at_call 25; refine (between3_any _ _ rfl _).mono ?_; rintro e w' ⟨rfl, rfl⟩; first | rw [r1.out] | rw [c1.out]))
      go_ret
      exact ⟨by rw [H.out]; rfl, HF.out⟩
  · have r1 := Lib.hid (decide_eq_false hR)
    have H : Hid (mayM R C n = false) := by rw [Hid, mayM]; exact decide_eq_false fun h => hR ⟨h.1, h.2.1⟩
    clear hR
    go_enter Try.func23, Try.ntmps23
    go_wp2_with (first | (go_at_call 25; refine (between3_any _ false r1.out _).mono ?_; rintro e w' ⟨rfl, rfl⟩))
    go_ret
    exact ⟨by rw [H.out]; rfl, HF.out⟩

set_option maxRecDepth 100000 in
set_option maxHeartbeats 400000 in
theorem check_any (R C : Int) (A : Option Addr) (n k : Nat) (w : World) (hn : n ≤ 9223372036854775807) :
    Calls Try.prog 28 #[matV R C (.slice A n k)] w fun e w' => e = .returned (.int .i64 (if mayM R C n = true then 0 else 1)) ∧ Below w.heap.size w w' := by
  have hF := (Below.refl w.heap.size w).alloc (Nat.le_refl _) (.cells #[.int .i64 R, .int .i64 C, .slice A n k] 30)
  have HF := Lib.hid hF
  clear hF
  obtain ⟨b, hb⟩ : ∃ b, b = mayM R C n := ⟨_, rfl⟩
  have HB := Lib.hid hb
  rw [← hb]
  clear hb
  unfold matV
  go_enter Try.func28, Try.ntmps28
  go_wp2_with fail
  refine (mayM_any R C A n k _ hn).mono ?_
  rintro e w' ⟨rfl, hb⟩
  rw [← HB.out]
  have hx := HF.out.trans (hb.mono HF.out.size)
  clear hb
  cases b
  · go_wp2_with fail
    go_ret
    exact ⟨rfl, hx⟩
  · go_wp2_with fail
    go_ret
    exact ⟨rfl, hx⟩

set_option maxRecDepth 100000 in
set_option maxHeartbeats 400000 in
theorem row_any (R : Int) (c i b o n k : Nat) (w : World) (hc : c ≤ 16) (hc1 : 1 ≤ c) (hi : i ≤ 16) (hn : (i + 1) * c ≤ n) (hk : n ≤ k) (hk2 : k ≤ 9223372036854775807) :
    Calls Try.prog 51 #[matV R (c : Int) (.slice (some ⟨b, o, none⟩) n k), .int .i64 (i : Int)] w fun e w' => e = .returned (.slice (some ⟨b, o + i * c, none⟩) c (k - i * c)) ∧ Below w.heap.size w w' := by
  have HF := Lib.hid ((Below.refl w.heap.size w).alloc (Nat.le_refl _) (.cells #[.int .i64 R, .int .i64 (c : Int), .slice (some ⟨b, o, none⟩) n k] 30))
  obtain ⟨x, hx⟩ : ∃ x, x = i * c := ⟨_, rfl⟩
  obtain ⟨y, hy⟩ : ∃ y, y = (i + 1) * c := ⟨_, rfl⟩
  have hyx : y = x + c := by rw [hy, hx, Nat.add_mul, Nat.one_mul]
  have h1 : (i : Int) * (c : Int) = (x : Int) := by rw [hx]; simp
  have h2 : ((i : Int) + 1) * (c : Int) = (y : Int) := by rw [hy]; simp
  rw [← hy] at hn
  rw [← hx]
  have hxs : x ≤ 16 * 16 := by rw [hx]; exact Nat.mul_le_mul hi hc
  have h3 : y - x = c := by omega
  have h4 : (0 : Int) ≤ (x : Int) := by omega
  have h5 : (x : Int) ≤ (y : Int) := by omega
  have h6 : (y : Int) ≤ (k : Int) := by omega
  have w1 : IntKind.i64.wrap (x : Int) = (x : Int) := IntWalk.i64_in _ (by omega)
  have w2 : IntKind.i64.wrap (y : Int) = (y : Int) := IntWalk.i64_in _ (by omega)
  have w3 : IntKind.i64.wrap ((i : Int) + 1) = (i : Int) + 1 := IntWalk.i64_in _ (by omega)
  clear hx hy
  unfold matV
  go_enter Try.func51, Try.ntmps51
  go_wp2_with fail
  all_goals
    first
      | (exfalso; clear HF; omega)
      | (go_ret
         exact ⟨by show Ending.returned (Value.slice _ (x + c - x) (k - x)) = _; rw [Nat.add_sub_cancel_left], HF.out⟩)

theorem hmkM {n : Nat} (hn : n ≤ 100000) : ∀ w, (Instr.makeSlice 28 (.int .i64 (n : Int)) (.int .i64 (n : Int))).run Try.prog w = .ok (.slice (some ⟨w.heap.size, 0, none⟩) n n) (w.alloc (.cells (cellsOf8 (List.replicate n 0)) 5)) := hmk8 hn

set_option maxRecDepth 100000 in
set_option maxHeartbeats 400000 in
theorem empty_any (r c : Nat) (w : World) (hr : r ≤ 16) (hc : c ≤ 16) :
    Calls Try.prog 44 #[.int .i64 (r : Int), .int .i64 (c : Int)] w fun e w' => ∃ B, w.heap.size ≤ B ∧ B < w'.heap.size ∧ e = .returned (matV (r : Int) (c : Int) (.slice (some ⟨B, 0, none⟩) (r * c) (r * c))) ∧ BytesBlk w' B (List.replicate (r * c) 0) ∧ Below w.heap.size w w' := by
  obtain ⟨x, hx⟩ : ∃ x, x = r * c := ⟨_, rfl⟩
  have h1 : (r : Int) * (c : Int) = (x : Int) := by rw [hx]; simp
  have hxs : x ≤ 16 * 16 := by rw [hx]; exact Nat.mul_le_mul hr hc
  have w1 : IntKind.i64.wrap (x : Int) = (x : Int) := IntWalk.i64_in _ (by omega)
  rw [← hx]
  have hmk := hmkM (n := x) (by omega)
  obtain ⟨C, hC⟩ : ∃ C, C = cellsOf8 (List.replicate x 0) := ⟨_, rfl⟩
  rw [← hC] at hmk
  have HC := Lib.hid hC
  clear hx hC
  go_enter Try.func44, Try.ntmps44
  go_wp2_with fail
  have hb := (((Below.refl w.heap.size w).alloc (Nat.le_refl _) (.cells #[.int .i64 (r : Int), .int .i64 (c : Int), .slice (some ⟨w.heap.size + 1, 0, none⟩) x x] 30)).alloc (by simp) (.cells C 5))
  refine bodyPost_ret (v := matV (r : Int) (c : Int) (.slice (some ⟨w.heap.size + 1, 0, none⟩) x x)) (by simp [results, Try.results44, go_sem, matV]) rfl ⟨w.heap.size + 1, by omega, by simp, rfl, ?_, hb⟩
  have := bytesBlk_new (w.alloc (.cells #[.int .i64 (r : Int), .int .i64 (c : Int), .slice (some ⟨w.heap.size + 1, 0, none⟩) x x] 30)) (ns := List.replicate x 0) rfl 5 (by intro y hy; rw [List.eq_of_mem_replicate hy]; decide)
  rw [HC.out]
  rw [World.size_alloc] at this
  exact this
end Go.Proofs.Ytibinkppbdeofaa

/- Bytes copied and compared, cloned; matrices copied and compared; walked. -/

namespace Go.Proofs.Ytibinkppbdeofaa
open Go.ChangeShapes Go.WideShapes Go.ChangeAt Go.RowKit Go.Joins
set_option linter.unusedVariables false
set_option linter.unusedSimpArgs false

theorem infoU8 : (Try.prog.info? 5).map (fun i => (i.zero, i.size, i.bytes)) = some (some (.int .u8 0), 1, 1) := by kernel_rfl
def u8s (ns : List Nat) : List Value := ns.map fun n : Nat => Value.int .u8 (n : Int)
theorem u8s_take {ns : List Nat} {k : Nat} (h : k < ns.length) : u8s (ns.take (k + 1)) = u8s (ns.take k) ++ [.int .u8 ((ns.getD k 0 : Nat) : Int)] := by
  rw [List.take_succ_eq_append_getElem h, u8s, List.map_append, ← List.getElem_eq_getD (h := h)]; rfl
theorem u8s_length (ns : List Nat) : (u8s ns).length = ns.length := by simp [u8s]
/-- A row of bytes that the code owns may be written. -/
theorem own_blk {w : World} {B : Nat} {e : TypeId} {v : Value} {n : Nat} {ns : List Nat} (h : w.ownsRow B e 1 v n (u8s ns)) (h0 : 0 < n) (hb : ∀ x ∈ ns, x < 256) :
    ∃ g cap, v = .slice (some ⟨g, 0, none⟩) n cap ∧ B ≤ g ∧ g < w.heap.size ∧ n ≤ cap ∧ cap ≤ maxLen ∧ n = ns.length ∧ BytesBlk w g ns := by
  have hn : n = ns.length := by have := h.1; rw [u8s_length] at this; omega
  have hc := h
  obtain ⟨_, ⟨rfl, rfl⟩ | ⟨g, cap, cur, rfl, hB, hh, h1, h2, h3, h4⟩⟩ := h
  · omega
  · refine ⟨g, cap, rfl, hB, (Array.getElem?_eq_some_iff.1 hh).1, h1, h2, hn, fun i hi => ⟨getD_lt hb hi, ?_, ?_⟩⟩
    · have := hc.cells (g := g) rfl i (.int .u8 ((ns.getD i 0 : Nat) : Int)) (by simp [u8s, List.getD, hi])
      rw [Go.WideShapes.add_plain, Nat.zero_add] at this
      exact this
    · have hi2 : i < cur.size := by rw [h3]; omega
      simp [World.frozen?, hh, hi2]

set_option maxRecDepth 100000 in
set_option maxHeartbeats 1000000 in
theorem copyBytes_any (v : Value) (ns : List Nat) (w : World) (h : BytesV w v ns) (hl : ns.length ≤ 100000) :
    Calls Try.prog 48 #[v] w fun e w' => ∃ r, e = .returned r ∧ w'.ownsRow w.heap.size 5 1 r ns.length (u8s ns) ∧ Below w.heap.size w w' := by
  obtain ⟨i0, hi, hz0, hz1, hz2⟩ := info_parts infoU8
  obtain ⟨A, cap, rfl⟩ := h.shape
  have HS := Lib.hid h
  clear h
  go_enter Try.func48, Try.ntmps48
  go_wp2_with fail
  go_loopw [3, 4] (fun l i wr => ∃ k : Nat, i = .int .i64 k ∧ k ≤ ns.length ∧ wr.ownsRow w.heap.size 5 1 l k (u8s (ns.take k)) ∧ Below w.heap.size w wr) (fun _ i _ => ns.length - (intOf i).toNat)
  case atStart => exact ⟨0, rfl, by omega, World.ownsRow_nil _ _ _ _, Below.refl _ _⟩
  case round =>
    obtain ⟨k, rfl, hk, hown, hwr⟩ := hrel
    by_cases hlt : k < ns.length
    · obtain ⟨b, off, rfl, hbl, hcell⟩ := (HS.out.below hwr).at_ hlt
      have HT := Lib.hid (u8s_take hlt)
      generalize ns.getD k 0 = x at hcell HT
      have j0 : (0 : Int) ≤ (k : Int) := by omega
      have j1 : (k : Int) < (ns.length : Int) := by omega
      go_wp2_with (first | (at_builtin; refine wpList_append_own _ rfl _ _ 28 rfl w.heap.size 5 i0 (.int .u8 0) 1 1 Try.underlying28 hi hz0 hz1 hz2 rfl (by decide) _ _ _ rfl (hown.alloc _) ⟨wr.heap.size, 0, none⟩ 1 1 [.int .u8 (x : Int)] rfl rfl ?c1 ?c2 ?c3 ?c4 ?c5 ?_) | go_in)
      case c1 => exact cell_one_new' _ _ _
      case c2 => intro u hu; simp at hu; subst hu; rfl
      case c3 => unfold maxLen; omega
      case c4 => omega
      case c5 => have := hwr.size; simp; omega
      all_goals
        intro v' w1 hown' hgrow _
        have hbx := append_below hwr hown hgrow
        clear hown hgrow hwr hcell
        go_wp2_with fail
        go_roundw
        case rel => exact ⟨k + 1, by go_num, by omega, by rw [HT.out]; exact hown', hbx⟩
        case measure => simp [intOf]; omega
    · have hke : k = ns.length := by omega
      rw [hke, List.take_length] at hown
      clear hke
      go_wp2_with fail
      all_goals
        go_ret
        exact ⟨_, rfl, hown, hwr⟩

set_option maxRecDepth 100000 in
set_option maxHeartbeats 1000000 in
theorem clone_any (b o n k : Nat) (ns : List Nat) (w : World) (h : BytesV w (.slice (some ⟨b, o, none⟩) n k) ns) (hl : ns.length ≤ 100000) (h0 : 0 < ns.length) :
    Calls Try.prog 60 #[.slice (some ⟨b, o, none⟩) n k] w fun e w' => ∃ r, e = .returned r ∧ w'.ownsRow w.heap.size 5 1 r ns.length (u8s ns) ∧ Below w.heap.size w w' := by
  obtain ⟨i0, hi, hz0, hz1, hz2⟩ := info_parts infoU8
  obtain ⟨A, cap, e⟩ := h.shape
  cases e
  have HS := Lib.hid h
  clear h
  have hnil : ∀ W, (binOp BinOp.eql 28 (.slice (some ⟨b, o, none⟩) ns.length k) (.slice none 0 0)).run Try.prog W = .ok (.bool false) W := fun W => Lib.run_eql_slice_nil W _ 5 (some ⟨b, o, none⟩) _ _ _ _ Try.underlying28
  go_enter Try.func60, Try.ntmps60
  have hown : (w.alloc (.cells #[] 5)).ownsRow w.heap.size 5 1 (.slice (some ⟨w.heap.size, 0, none⟩) 0 0) 0 [] := World.ownsRow_made w #[] 0 (Nat.le_refl _) (by unfold maxLen; omega) rfl
  have hnews : ∀ j u, (u8s ns)[j]? = some u → (w.alloc (.cells #[] 5)).cell? ((⟨b, o, none⟩ : Addr).add j) = some u := fun j u hj => by
    have hl' : j < ns.length := by have := (List.getElem?_eq_some_iff.1 hj).1; rw [u8s_length] at this; exact this
    obtain ⟨b', o', e, hbl, hc⟩ := HS.out.at_ hl'
    cases e
    rw [Go.WideShapes.add_plain, ((Below.refl w.heap.size w).alloc (Nat.le_refl _) _).cell (p := ⟨b, o + j, none⟩) hbl, hc, ← hj]
    simp [u8s, List.getD, hl']
  have hone : ∀ u ∈ u8s ns, u.oneCell' = true := fun u hu => by
    obtain ⟨x, _, rfl⟩ := List.mem_map.1 hu
    rfl
  go_wp2_with (first | (at_builtin; refine wpList_append_own _ rfl _ _ 28 rfl w.heap.size 5 i0 (.int .u8 0) 1 1 Try.underlying28 hi hz0 hz1 hz2 rfl (by decide) _ _ _ rfl hown ⟨b, o, none⟩ ns.length k (u8s ns) rfl (by rw [u8s_length, Nat.mul_one]) hnews hone ?c3 ?c4 ?c5 ?_) | go_in)
  case c3 => unfold maxLen; omega
  case c4 => omega
  case c5 => simp
  intro v' w1 hown' hgrow _
  have hb := ((Below.refl w.heap.size w).alloc (Nat.le_refl _) (.cells #[] 5)).grown hgrow (by simp) (fun k hk => (hown.lt k hk).1)
  clear hown hgrow hnews hone
  go_wp2_with fail
  go_ret
  exact ⟨_, rfl, hown', hb⟩
end Go.Proofs.Ytibinkppbdeofaa

/- Matrices copied and compared; walked. -/

namespace Go.Proofs.Ytibinkppbdeofaa
open Go.ChangeShapes Go.WideShapes Go.ChangeAt Go.RowKit Go.Joins
set_option linter.unusedVariables false
set_option linter.unusedSimpArgs false

/-- Three cells of a block, that may be written. -/
structure Three (w : World) (B : Nat) (a b c : Value) : Prop where
  c0 : w.cell? ⟨B, 0, none⟩ = some a
  c1 : w.cell? ⟨B, 1, none⟩ = some b
  c2 : w.cell? ⟨B, 2, none⟩ = some c
  f0 : w.frozen? ⟨B, 0, none⟩ = false
  f1 : w.frozen? ⟨B, 1, none⟩ = false
  f2 : w.frozen? ⟨B, 2, none⟩ = false
theorem Three.new (w : World) (a b c : Value) (T : TypeId) : Three (w.alloc (.cells #[a, b, c] T)) w.heap.size a b c :=
  ⟨by simp [go_sem], by simp [go_sem], by simp [go_sem], by simp [go_sem], by simp [go_sem], by simp [go_sem]⟩
theorem Three.below {w w' : World} {B : Nat} {a b c : Value} (h : Three w B a b c) (hb : Below w.heap.size w w') : Three w' B a b c := by
  have hl := cell_block h.c0
  have k := Kept.of_below (p := fun _ => False) hb
  exact ⟨by rw [k.cell (d := ⟨B, 0, none⟩) hl id]; exact h.c0, by rw [k.cell (d := ⟨B, 1, none⟩) hl id]; exact h.c1, by rw [k.cell (d := ⟨B, 2, none⟩) hl id]; exact h.c2,
    by rw [k.frozen (d := ⟨B, 0, none⟩) hl id]; exact h.f0, by rw [k.frozen (d := ⟨B, 1, none⟩) hl id]; exact h.f1, by rw [k.frozen (d := ⟨B, 2, none⟩) hl id]; exact h.f2⟩
theorem Three.alloc {w : World} {B : Nat} {a b c : Value} (h : Three w B a b c) (o : Obj) : Three (w.alloc o) B a b c := h.below ((Below.refl _ _).alloc (Nat.le_refl _) o)

theorem own_kept {p : Nat → Prop} {w w' : World} {B k n : Nat} {e : TypeId} {v : Value} {xs : List Value} (h : w.ownsRow B e k v n xs) (hk : Kept p w w') (hp : ∀ g, B ≤ g → ¬ p g) : w'.ownsRow B e k v n xs := by
  refine ⟨h.1, ?_⟩
  rcases h.2 with h2 | ⟨g, cap, cur, h1, h2, h3, h4⟩
  · exact Or.inl h2
  · refine Or.inr ⟨g, cap, cur, h1, h2, ?_, h4⟩
    rw [hk.block g (Array.getElem?_eq_some_iff.1 h3).1 (hp g h2)]; exact h3
theorem own_base {w : World} {B B' k n : Nat} {e : TypeId} {v : Value} {xs : List Value} (h : w.ownsRow B e k v n xs) (hB : B' ≤ B) : w.ownsRow B' e k v n xs := by
  refine ⟨h.1, ?_⟩
  rcases h.2 with h2 | ⟨g, cap, cur, h1, h2, h3⟩
  · exact Or.inl h2
  · exact Or.inr ⟨g, cap, cur, h1, by omega, h3⟩
theorem own_cell {w : World} {B k n : Nat} {e : TypeId} {v u : Value} {xs : List Value} (h : w.ownsRow B e k v n xs) {d : Addr} (hd : d.block < B) : (w.setCell d u).ownsRow B e k v n xs :=
  own_kept (p := fun j => j = d.block) h ((Kept.refl (fun j => j = d.block) w).setCell (d := d) (fun _ => rfl) u) (fun g hg e => by omega)

theorem cum2 {W a b : World} (h : Below W.heap.size W a) (hb : Below a.heap.size a b) : Below W.heap.size W b := h.trans (hb.mono h.size)

set_option maxRecDepth 100000 in
set_option maxHeartbeats 1000000 in
theorem own_any (R C : Int) (b o n k : Nat) (ns : List Nat) (w : World) (h : BytesV w (.slice (some ⟨b, o, none⟩) n k) ns) (hl : ns.length ≤ 100000) (h0 : 0 < ns.length) :
    Calls Try.prog 40 #[matV R C (.slice (some ⟨b, o, none⟩) n k)] w fun e w' => ∃ r, e = .returned (matV R C r) ∧ w'.ownsRow w.heap.size 5 1 r ns.length (u8s ns) ∧ Below w.heap.size w w' := by
  have hb1 := (Below.refl w.heap.size w).alloc (Nat.le_refl _) (.cells #[.int .i64 R, .int .i64 C, .slice (some ⟨b, o, none⟩) n k] 30)
  have hb2 := hb1.alloc hb1.size (.cells #[.int .i64 0, .int .i64 0, .slice none 0 0] 30)
  have ht1 := (Three.new w (.int .i64 R) (.int .i64 C) (.slice (some ⟨b, o, none⟩) n k) 30).alloc (.cells #[.int .i64 0, .int .i64 0, .slice none 0 0] 30)
  have ht2 := Three.new (w.alloc (.cells #[.int .i64 R, .int .i64 C, .slice (some ⟨b, o, none⟩) n k] 30)) (.int .i64 0) (.int .i64 0) (.slice none 0 0) 30
  rw [World.size_alloc] at ht2
  have HB := Lib.hid hb2
  have HT1 := Lib.hid ht1
  have HT2 := Lib.hid ht2
  have HS := Lib.hid (h.below hb2)
  clear h hb1 hb2 ht1 ht2
  unfold matV
  go_enter Try.func40, Try.ntmps40
  go_wp2_with fail
  refine (clone_any b o n k ns _ HS.out hl h0).mono ?_
  rintro e w1 ⟨r, rfl, hown, hb⟩
  obtain ⟨Ar, cr, rfl⟩ := own_shape hown
  obtain ⟨a0, a1, a2, f0, f1, f2⟩ := HT1.out.below hb
  obtain ⟨g0, g1, g2, h0', h1, h2⟩ := HT2.out.below hb
  have hx := cum2 HB.out hb
  simp only [World.size_alloc] at hown
  have HOWN := Lib.hid hown
  clear hb HB HT1 HT2 HS hown
  go_wp2_with fail
  refine bodyPost_ret (v := matV R C (.slice Ar ns.length cr)) (by simp [results, Try.results40, go_sem, matV, *]) rfl ⟨_, rfl, ?_, ?_⟩
  · exact own_base (own_cell (own_cell (own_cell (own_cell HOWN.out (by dsimp only; omega)) (by dsimp only; omega)) (by dsimp only; omega)) (by dsimp only; omega)) (by omega)
  · exact (((hx.setCell (p := ⟨w.heap.size, 2, none⟩) (by simp) _).setCell (p := ⟨w.heap.size + 1, 0, none⟩) (by simp) _).setCell (p := ⟨w.heap.size + 1, 1, none⟩) (by simp) _).setCell (p := ⟨w.heap.size + 1, 2, none⟩) (by simp) _

set_option maxRecDepth 100000 in
set_option maxHeartbeats 1000000 in
theorem copyMatrix_any (R C : Int) (v : Value) (ns : List Nat) (w : World) (h : BytesV w v ns) (hl : ns.length ≤ 100000) :
    Calls Try.prog 22 #[matV R C v] w fun e w' => ∃ r, e = .returned (matV R C r) ∧ w'.ownsRow w.heap.size 5 1 r ns.length (u8s ns) ∧ Below w.heap.size w w' := by
  obtain ⟨A, k, rfl⟩ := h.shape
  have hb1 := (Below.refl w.heap.size w).alloc (Nat.le_refl _) (.cells #[.int .i64 R, .int .i64 C, .slice A ns.length k] 30)
  have hb2 := hb1.alloc hb1.size (.cells #[.int .i64 0, .int .i64 0, .slice none 0 0] 30)
  have hb3 := hb2.alloc hb2.size (.cells #[.int .i64 R, .int .i64 C, .slice A ns.length k] 30)
  have ht2 := (Three.new (w.alloc (.cells #[.int .i64 R, .int .i64 C, .slice A ns.length k] 30)) (.int .i64 0) (.int .i64 0) (.slice none 0 0) 30).alloc (.cells #[.int .i64 R, .int .i64 C, .slice A ns.length k] 30)
  have ht3 := Three.new ((w.alloc (.cells #[.int .i64 R, .int .i64 C, .slice A ns.length k] 30)).alloc (.cells #[.int .i64 0, .int .i64 0, .slice none 0 0] 30)) (.int .i64 R) (.int .i64 C) (.slice A ns.length k) 30
  simp only [World.size_alloc] at ht2 ht3
  have HB := Lib.hid hb3
  have HT2 := Lib.hid ht2
  have HT3 := Lib.hid ht3
  have HS := Lib.hid (h.below hb3)
  clear h hb1 hb2 hb3 ht2 ht3
  unfold matV
  go_enter Try.func22, Try.ntmps22
  go_wp2_with fail
  refine (copyBytes_any _ ns _ HS.out hl).mono ?_
  rintro e w1 ⟨r, rfl, hown, hb⟩
  obtain ⟨Ar, cr, rfl⟩ := own_shape hown
  obtain ⟨g0, g1, g2, k0, k1, k2⟩ := HT2.out.below hb
  obtain ⟨a0, a1, a2, f0, f1, f2⟩ := HT3.out.below hb
  have hx := cum2 HB.out hb
  simp only [World.size_alloc] at hown
  have HOWN := Lib.hid hown
  clear hb HB HT2 HT3 HS hown
  go_wp2_with fail
  refine bodyPost_ret (v := matV R C (.slice Ar ns.length cr)) (by simp [results, Try.results22, go_sem, matV, *]) rfl ⟨_, rfl, ?_, ?_⟩
  · exact own_base (own_cell (own_cell (own_cell (own_cell HOWN.out (by dsimp only; omega)) (by dsimp only; omega)) (by dsimp only; omega)) (by dsimp only; omega)) (by omega)
  · exact (((hx.setCell (p := ⟨w.heap.size + 1 + 1, 2, none⟩) (by simp; omega) _).setCell (p := ⟨w.heap.size + 1, 0, none⟩) (by simp) _).setCell (p := ⟨w.heap.size + 1, 1, none⟩) (by simp) _).setCell (p := ⟨w.heap.size + 1, 2, none⟩) (by simp) _
end Go.Proofs.Ytibinkppbdeofaa
