/- Matrices copied and compared; walked. -/
import Derived.Test.YtdagnmhioellhaaPkA04
import Derived.RangeFuncFrom
import Derived.RangeFuncMany
import Derived.RangeFuncNested
import Derived.RangeFuncBound
import Derived.RangeFuncCalls
import Derived.RangeFuncLeaves
import Derived.Shelf.Abstract
import Derived.Shelf.RegionOpen
import Derived.OwnWalkIn
import Derived.TacticsInMore
import Derived.LoopNIn
import Derived.LoopIn
namespace Go.Proofs.Ytdagnmhioellhaa
open Go.ChangeShapes Go.WideShapes Go.ChangeAt Go.RowKit Go.Joins
set_option linter.unusedVariables false
set_option linter.unusedSimpArgs false

/-- Three cells of a block, that may be written. -/
structure Three (w : World) (B : Nat) (a b c : Value) : Prop where
  c0 : w.cell? ⟨B, 0, none⟩ = some a
  c1 : w.cell? ⟨B, 1, none⟩ = some b
  c2 : w.cell? ⟨B, 2, none⟩ = some c
  f0 : w.frozen? ⟨B, 0, none⟩ = false
  f1 : w.frozen? ⟨B, 1, none⟩ = false
  f2 : w.frozen? ⟨B, 2, none⟩ = false
theorem Three.new (w : World) (a b c : Value) (T : TypeId) : Three (w.alloc (.cells #[a, b, c] T)) w.heap.size a b c :=
  ⟨by simp [go_sem], by simp [go_sem], by simp [go_sem], by simp [go_sem], by simp [go_sem], by simp [go_sem]⟩
theorem Three.below {w w' : World} {B : Nat} {a b c : Value} (h : Three w B a b c) (hb : Below w.heap.size w w') : Three w' B a b c := by
  have hl := cell_block h.c0
  have k := Kept.of_below (p := fun _ => False) hb
  exact ⟨by rw [k.cell (d := ⟨B, 0, none⟩) hl id]; exact h.c0, by rw [k.cell (d := ⟨B, 1, none⟩) hl id]; exact h.c1, by rw [k.cell (d := ⟨B, 2, none⟩) hl id]; exact h.c2,
    by rw [k.frozen (d := ⟨B, 0, none⟩) hl id]; exact h.f0, by rw [k.frozen (d := ⟨B, 1, none⟩) hl id]; exact h.f1, by rw [k.frozen (d := ⟨B, 2, none⟩) hl id]; exact h.f2⟩
theorem Three.alloc {w : World} {B : Nat} {a b c : Value} (h : Three w B a b c) (o : Obj) : Three (w.alloc o) B a b c := h.below ((Below.refl _ _).alloc (Nat.le_refl _) o)

theorem own_kept {p : Nat → Prop} {w w' : World} {B k n : Nat} {e : TypeId} {v : Value} {xs : List Value} (h : w.ownsRow B e k v n xs) (hk : Kept p w w') (hp : ∀ g, B ≤ g → ¬ p g) : w'.ownsRow B e k v n xs := by
  refine ⟨h.1, ?_⟩
  rcases h.2 with h2 | ⟨g, cap, cur, h1, h2, h3, h4⟩
  · exact Or.inl h2
  · refine Or.inr ⟨g, cap, cur, h1, h2, ?_, h4⟩
    rw [hk.block g (Array.getElem?_eq_some_iff.1 h3).1 (hp g h2)]; exact h3
theorem own_base {w : World} {B B' k n : Nat} {e : TypeId} {v : Value} {xs : List Value} (h : w.ownsRow B e k v n xs) (hB : B' ≤ B) : w.ownsRow B' e k v n xs := by
  refine ⟨h.1, ?_⟩
  rcases h.2 with h2 | ⟨g, cap, cur, h1, h2, h3⟩
  · exact Or.inl h2
  · exact Or.inr ⟨g, cap, cur, h1, by omega, h3⟩
theorem own_cell {w : World} {B k n : Nat} {e : TypeId} {v u : Value} {xs : List Value} (h : w.ownsRow B e k v n xs) {d : Addr} (hd : d.block < B) : (w.setCell d u).ownsRow B e k v n xs :=
  own_kept (p := fun j => j = d.block) h ((Kept.refl (fun j => j = d.block) w).setCell (d := d) (fun _ => rfl) u) (fun g hg e => by omega)

theorem cum2 {W a b : World} (h : Below W.heap.size W a) (hb : Below a.heap.size a b) : Below W.heap.size W b := h.trans (hb.mono h.size)

set_option maxRecDepth 100000 in
set_option maxHeartbeats 1000000 in
theorem own_any (R C : Int) (b o n k : Nat) (ns : List Nat) (w : World) (h : BytesV w (.slice (some ⟨b, o, none⟩) n k) ns) (hl : ns.length ≤ 100000) (h0 : 0 < ns.length) :
    Calls Try.prog 69 #[matV R C (.slice (some ⟨b, o, none⟩) n k)] w fun e w' => ∃ r, e = .returned (matV R C r) ∧ w'.ownsRow w.heap.size 5 1 r ns.length (u8s ns) ∧ Below w.heap.size w w' := by
  have hb1 := (Below.refl w.heap.size w).alloc (Nat.le_refl _) (.cells #[.int .i64 R, .int .i64 C, .slice (some ⟨b, o, none⟩) n k] 33)
  have hb2 := hb1.alloc hb1.size (.cells #[.int .i64 0, .int .i64 0, .slice none 0 0] 33)
  have ht1 := (Three.new w (.int .i64 R) (.int .i64 C) (.slice (some ⟨b, o, none⟩) n k) 33).alloc (.cells #[.int .i64 0, .int .i64 0, .slice none 0 0] 33)
  have ht2 := Three.new (w.alloc (.cells #[.int .i64 R, .int .i64 C, .slice (some ⟨b, o, none⟩) n k] 33)) (.int .i64 0) (.int .i64 0) (.slice none 0 0) 33
  rw [World.size_alloc] at ht2
  have HB := Lib.hid hb2
  have HT1 := Lib.hid ht1
  have HT2 := Lib.hid ht2
  have HS := Lib.hid (h.below hb2)
  clear h hb1 hb2 ht1 ht2
  unfold matV
  go_enter Try.func69, Try.ntmps69
  go_wp2_with fail
  refine (clone_any b o n k ns _ HS.out hl h0).mono ?_
  rintro e w1 ⟨r, rfl, hown, hb⟩
  obtain ⟨Ar, cr, rfl⟩ := own_shape hown
  obtain ⟨a0, a1, a2, f0, f1, f2⟩ := HT1.out.below hb
  obtain ⟨g0, g1, g2, h0', h1, h2⟩ := HT2.out.below hb
  have hx := cum2 HB.out hb
  simp only [World.size_alloc] at hown
  have HOWN := Lib.hid hown
  clear hb HB HT1 HT2 HS hown
  go_wp2_with fail
  refine bodyPost_ret (v := matV R C (.slice Ar ns.length cr)) (by simp [results, Try.results69, go_sem, matV, *]) rfl ⟨_, rfl, ?_, ?_⟩
  · exact own_base (own_cell (own_cell (own_cell (own_cell HOWN.out (by dsimp only; omega)) (by dsimp only; omega)) (by dsimp only; omega)) (by dsimp only; omega)) (by omega)
  · exact (((hx.setCell (p := ⟨w.heap.size, 2, none⟩) (by simp) _).setCell (p := ⟨w.heap.size + 1, 0, none⟩) (by simp) _).setCell (p := ⟨w.heap.size + 1, 1, none⟩) (by simp) _).setCell (p := ⟨w.heap.size + 1, 2, none⟩) (by simp) _

set_option maxRecDepth 100000 in
set_option maxHeartbeats 1000000 in
theorem copyMatrix_any (R C : Int) (v : Value) (ns : List Nat) (w : World) (h : BytesV w v ns) (hl : ns.length ≤ 100000) :
    Calls Try.prog 71 #[matV R C v] w fun e w' => ∃ r, e = .returned (matV R C r) ∧ w'.ownsRow w.heap.size 5 1 r ns.length (u8s ns) ∧ Below w.heap.size w w' := by
  obtain ⟨A, k, rfl⟩ := h.shape
  have hb1 := (Below.refl w.heap.size w).alloc (Nat.le_refl _) (.cells #[.int .i64 R, .int .i64 C, .slice A ns.length k] 33)
  have hb2 := hb1.alloc hb1.size (.cells #[.int .i64 0, .int .i64 0, .slice none 0 0] 33)
  have hb3 := hb2.alloc hb2.size (.cells #[.int .i64 R, .int .i64 C, .slice A ns.length k] 33)
  have ht2 := (Three.new (w.alloc (.cells #[.int .i64 R, .int .i64 C, .slice A ns.length k] 33)) (.int .i64 0) (.int .i64 0) (.slice none 0 0) 33).alloc (.cells #[.int .i64 R, .int .i64 C, .slice A ns.length k] 33)
  have ht3 := Three.new ((w.alloc (.cells #[.int .i64 R, .int .i64 C, .slice A ns.length k] 33)).alloc (.cells #[.int .i64 0, .int .i64 0, .slice none 0 0] 33)) (.int .i64 R) (.int .i64 C) (.slice A ns.length k) 33
  simp only [World.size_alloc] at ht2 ht3
  have HB := Lib.hid hb3
  have HT2 := Lib.hid ht2
  have HT3 := Lib.hid ht3
  have HS := Lib.hid (h.below hb3)
  clear h hb1 hb2 hb3 ht2 ht3
  unfold matV
  go_enter Try.func71, Try.ntmps71
  go_wp2_with fail
  refine (copyBytes_any _ ns _ HS.out hl).mono ?_
  rintro e w1 ⟨r, rfl, hown, hb⟩
  obtain ⟨Ar, cr, rfl⟩ := own_shape hown
  obtain ⟨g0, g1, g2, k0, k1, k2⟩ := HT2.out.below hb
  obtain ⟨a0, a1, a2, f0, f1, f2⟩ := HT3.out.below hb
  have hx := cum2 HB.out hb
  simp only [World.size_alloc] at hown
  have HOWN := Lib.hid hown
  clear hb HB HT2 HT3 HS hown
  go_wp2_with fail
  refine bodyPost_ret (v := matV R C (.slice Ar ns.length cr)) (by simp [results, Try.results71, go_sem, matV, *]) rfl ⟨_, rfl, ?_, ?_⟩
  · exact own_base (own_cell (own_cell (own_cell (own_cell HOWN.out (by dsimp only; omega)) (by dsimp only; omega)) (by dsimp only; omega)) (by dsimp only; omega)) (by omega)
  · exact (((hx.setCell (p := ⟨w.heap.size + 1 + 1, 2, none⟩) (by simp; omega) _).setCell (p := ⟨w.heap.size + 1, 0, none⟩) (by simp) _).setCell (p := ⟨w.heap.size + 1, 1, none⟩) (by simp) _).setCell (p := ⟨w.heap.size + 1, 2, none⟩) (by simp) _
end Go.Proofs.Ytdagnmhioellhaa

/- Bytes and matrices that are one; the law's error number. -/

namespace Go.Proofs.Ytdagnmhioellhaa
open Go.ChangeShapes Go.WideShapes Go.ChangeAt Go.RowKit Go.Joins
set_option linter.unusedVariables false
set_option linter.unusedSimpArgs false

set_option maxRecDepth 100000 in
set_option maxHeartbeats 1000000 in
theorem eqBytes_yes (va vb : Value) (l : List Nat) (w : World) (ha : BytesV w va l) (hb : BytesV w vb l) (hm : l.length ≤ 9000000000000000000) :
    Calls Try.prog 42 #[va, vb] w fun e w' => e = .returned (.bool true) ∧ Below w.heap.size w w' := by
  have HA := Lib.hid ha
  have HB := Lib.hid hb
  obtain ⟨Aa, ka, rfl⟩ := ha.shape
  obtain ⟨Ab, kb, rfl⟩ := hb.shape
  clear ha hb
  go_enter Try.func42, Try.ntmps42
  go_wp2_with fail
  go_loopw [5] (fun i wr => ∃ k : Nat, i = .int .i64 k ∧ k ≤ l.length ∧ Below w.heap.size w wr) (fun i _ => l.length - (intOf i).toNat)
  case atStart => exact ⟨0, rfl, by omega, Below.refl _ _⟩
  case round =>
    obtain ⟨k, rfl, hk, hwr⟩ := hrel
    by_cases hlt : k < l.length
    · obtain ⟨ba, oa, rfl, _, a0⟩ := (HA.out.below hwr).at_ hlt
      obtain ⟨bb, ob, rfl, _, b0⟩ := (HB.out.below hwr).at_ hlt
      generalize l.getD k 0 = s at a0 b0
      have j0 : (0 : Int) ≤ (k : Int) := by omega
      have j1 : (k : Int) < (l.length : Int) := by omega
      go_wp2_with fail
      go_quiet (fail)
      all_goals
        go_wp2_with fail
        go_roundw
        case rel => exact ⟨k + 1, by go_num, by omega, below_drewN hwr _⟩
        case measure => simp [intOf]; omega
    · go_wp2_with fail
      go_ret
      exact ⟨rfl, hwr⟩

set_option maxRecDepth 100000 in
set_option maxHeartbeats 1000000 in
theorem eqMatrix_yes (R C : Int) (va vb : Value) (l : List Nat) (w : World) (ha : BytesV w va l) (hb : BytesV w vb l) (hm : l.length ≤ 9000000000000000000) :
    Calls Try.prog 17 #[matV R C va, matV R C vb] w fun e w' => e = .returned (.bool true) ∧ Below w.heap.size w w' := by
  obtain ⟨Aa, ka, rfl⟩ := ha.shape
  obtain ⟨Ab, kb, rfl⟩ := hb.shape
  have hb1 := (Below.refl w.heap.size w).alloc (Nat.le_refl _) (.cells #[.int .i64 R, .int .i64 C, .slice Aa l.length ka] 33)
  have hb2 := hb1.alloc hb1.size (.cells #[.int .i64 R, .int .i64 C, .slice Ab l.length kb] 33)
  have HA := Lib.hid (ha.below hb2)
  have HB := Lib.hid (hb.below hb2)
  have HX := Lib.hid hb2
  clear ha hb hb1 hb2
  unfold matV
  go_enter Try.func17, Try.ntmps17
  go_wp2_with fail
  refine (eqBytes_yes _ _ l _ HA.out HB.out hm).mono ?_
  rintro e w1 ⟨rfl, hb⟩
  have hx := cum2 HX.out hb
  clear hb HA HB HX
  go_wp2_with fail
  go_ret
  exact ⟨rfl, hx⟩

end Go.Proofs.Ytdagnmhioellhaa

/- A matrix's rows, ranged over: what the iterator promises. -/

namespace Go.Proofs.Ytdagnmhioellhaa
open Go.ChangeShapes Go.WideShapes Go.ChangeAt Go.RowKit Go.Joins Go.Shelf
set_option linter.unusedVariables false
set_option linter.unusedSimpArgs false
attribute [local go_sem] Oper.semAt_some

set_option maxRecDepth 100000 in
set_option maxHeartbeats 400000 in
theorem row_alloc (R : Int) (c i b o n k : Nat) (w : World) (hc : c ≤ 16) (hc1 : 1 ≤ c) (hi : i ≤ 16) (hn : (i + 1) * c ≤ n) (hk : n ≤ k) (hk2 : k ≤ 9223372036854775807) :
    Calls Try.prog 66 #[matV R (c : Int) (.slice (some ⟨b, o, none⟩) n k), .int .i64 (i : Int)] w fun e w' => e = .returned (.slice (some ⟨b, o + i * c, none⟩) c (k - i * c)) ∧ w' = w.alloc (.cells #[.int .i64 R, .int .i64 (c : Int), .slice (some ⟨b, o, none⟩) n k] 33) := by
  obtain ⟨x, hx⟩ : ∃ x, x = i * c := ⟨_, rfl⟩
  obtain ⟨y, hy⟩ : ∃ y, y = (i + 1) * c := ⟨_, rfl⟩
  have hyx : y = x + c := by rw [hy, hx, Nat.add_mul, Nat.one_mul]
  have h1 : (i : Int) * (c : Int) = (x : Int) := by rw [hx]; simp
  have h2 : ((i : Int) + 1) * (c : Int) = (y : Int) := by rw [hy]; simp
  rw [← hy] at hn
  rw [← hx]
  have hxs : x ≤ 16 * 16 := by rw [hx]; exact Nat.mul_le_mul hi hc
  have h4 : (0 : Int) ≤ (x : Int) := by omega
  have h5 : (x : Int) ≤ (y : Int) := by omega
  have h6 : (y : Int) ≤ (k : Int) := by omega
  have w1 : IntKind.i64.wrap (x : Int) = (x : Int) := IntWalk.i64_in _ (by omega)
  have w2 : IntKind.i64.wrap (y : Int) = (y : Int) := IntWalk.i64_in _ (by omega)
  have w3 : IntKind.i64.wrap ((i : Int) + 1) = (i : Int) + 1 := IntWalk.i64_in _ (by omega)
  clear hx hy
  unfold matV
  go_enter Try.func66, Try.ntmps66
  go_wp2_with fail
  all_goals
    first
      | (exfalso; omega)
      | (go_ret
         exact ⟨by show Ending.returned (Value.slice _ (x + c - x) (k - x)) = _; rw [Nat.add_sub_cancel_left], rfl⟩)

set_option maxRecDepth 100000 in
set_option maxHeartbeats 400000 in
theorem rows_any (R C : Int) (A : Option Addr) (n k : Nat) (w : World) :
    Calls Try.prog 58 #[matV R C (.slice A n k)] w fun e w' => e = .returned (.func (.func 77) #[] #[.pointer (some ⟨w.heap.size, 0, none⟩)]) ∧ w' = w.alloc (.cells #[.int .i64 R, .int .i64 C, .slice A n k] 33) := by
  unfold matV
  go_enter Try.func58, Try.ntmps58
  go_wp2_with fail
  go_ret
  exact ⟨rfl, rfl⟩

/-- The numbers below j, each of them below r. -/
def finL (r : Nat) : (j : Nat) → j ≤ r → List (Fin r)
  | 0, _ => []
  | j + 1, h => finL r j (by omega) ++ [⟨j, by omega⟩]
theorem finL_val (r : Nat) : ∀ (j : Nat) (h : j ≤ r), (finL r j h).map Fin.val = List.range j
  | 0, _ => rfl
  | j + 1, h => by rw [finL, List.map_append, finL_val r j, List.range_succ]; rfl
theorem finL_length (r : Nat) : ∀ (j : Nat) (h : j ≤ r), (finL r j h).length = j
  | 0, _ => rfl
  | j + 1, h => by rw [finL, List.length_append, finL_length r j]; rfl
/-- What the iterator hands out: a row's number, the row. -/
abbrev encRow (b o c k : Nat) {r : Nat} (i : Fin r) : Array Value := #[.int .i64 (i.1 : Int), .slice (some ⟨b, o + i.1 * c, none⟩) c (k - i.1 * c)]
/-- What a round must keep: the iterator's box. -/
def KeepsBox (Bn : Nat) (W W' : World) : Prop := W.heap.size ≤ W'.heap.size ∧ W'.heap[Bn]? = W.heap[Bn]?
theorem keepsBox_t {Bn : Nat} {A B C : World} (h : KeepsBox Bn A B) (k : KeepsBox Bn B C) : KeepsBox Bn A C := ⟨Nat.le_trans h.1 k.1, k.2.trans h.2⟩
theorem keepsBox_b {Bn : Nat} {w : World} (hB : Bn < w.heap.size) (W : World) (l : Nat) (o o' : Obj) (hl : w.heap.size ≤ l) (_ : W.heap[l]? = some o) (_ : o.isCells = false) (_ : o.isWalk = false) : KeepsBox Bn W (W.putObj l o') :=
  ⟨by simp [World.putObj], World.putObj_heap_other (by omega)⟩
theorem three_of {w W : World} {B : Nat} {a b c : Value} (h : Three w B a b c) (hk : W.heap[B]? = w.heap[B]?) : Three W B a b c :=
  ⟨by rw [World.cell?_of_block (w := w) (a := ⟨B, 0, none⟩) hk]; exact h.c0, by rw [World.cell?_of_block (w := w) (a := ⟨B, 1, none⟩) hk]; exact h.c1, by rw [World.cell?_of_block (w := w) (a := ⟨B, 2, none⟩) hk]; exact h.c2,
    by rw [World.frozen?_of_block (w := w) (a := ⟨B, 0, none⟩) hk]; exact h.f0, by rw [World.frozen?_of_block (w := w) (a := ⟨B, 1, none⟩) hk]; exact h.f1, by rw [World.frozen?_of_block (w := w) (a := ⟨B, 2, none⟩) hk]; exact h.f2⟩

set_option maxRecDepth 100000 in
set_option maxHeartbeats 1000000 in
theorem rows1_stops (Bn r c b o n k : Nat) (w : World) (hBn : Bn < w.heap.size) (hT : Three w Bn (.int .i64 (r : Int)) (.int .i64 (c : Int)) (.slice (some ⟨b, o, none⟩) n k)) (hr : r ≤ 16) (hc : c ≤ 16) (hc1 : 1 ≤ c) (hn : r * c ≤ n) (hk : n ≤ k) (hk2 : k ≤ 9223372036854775807) :
    SeqStopsK Fence.wide 9 Try.prog 77 #[.pointer (some ⟨Bn, 0, none⟩)] (encRow b o c k (r := r)) (KeepsBox Bn) (fun xs => xs = finL r r (Nat.le_refl r)) (fun pre => ∃ j, ∃ h : j ≤ r, pre = finL r j h) r w := fun l J Jx W hW hJa _ hY h0 => by
  have hBW : W.heap[Bn]? = w.heap[Bn]? := hW.block Bn hBn
  have HT := Lib.hid hT
  obtain ⟨a0, a1, a2, _, _, _⟩ := three_of hT hBW
  have HBW := Lib.hid hBW
  have hBW2 := Nat.lt_of_lt_of_le hBn hW.size
  clear hBW hT hW
  refine callsIn_of_wp Try.func77 rfl trivial ?_ rfl
  simp only [Try.ntmps77, List.size_toArray, List.length_cons, List.length_nil, Nat.reduceAdd, Nat.reduceSub, Array.replicate_succ, Array.replicate_zero, List.push_toArray, List.append_toArray, List.nil_append, List.cons_append]
  gi_wp2
  clear a0 a1 a2
  gi_loopw [3, 6] (fun x i wr => ∃ (j : Nat) (hj : j ≤ r), i = .int .i64 j ∧ J (finL r j hj) wr ∧ Hid (wr.heap[Bn]? = w.heap[Bn]?) ∧ W.heap.size ≤ wr.heap.size) (fun _ i _ => r - (intOf i).toNat)
  case atStart => exact ⟨0, by omega, rfl, h0, HBW, Nat.le_refl _⟩
  case round =>
    obtain ⟨j, hj, rfl, hJ, HB, hsz⟩ := hrel
    by_cases hjr : j < r
    · obtain ⟨a0, a1, a2, _, _, _⟩ := three_of HT.out HB.out
      have hjm : (j + 1) * c ≤ n := Nat.le_trans (Nat.mul_le_mul_right c hjr) hn
      have hJ1 := hJa _ wr (wr.alloc (.cells #[.int .i64 (r : Int), .int .i64 (c : Int), .slice (some ⟨b, o, none⟩) n k] 33)) none hJ (World.grownBy_alloc wr _ none) (fun r e => by cases e)
      obtain ⟨fn, tmps, assign, body, hy, hR⟩ := hY (finL r j hj) ⟨j, hjr⟩ _ hJ1 (by rw [finL_length]; exact hjr)
      dsimp only [encRow] at hy
      have hB2 : Hid ((wr.alloc (.cells #[.int .i64 (r : Int), .int .i64 (c : Int), .slice (some ⟨b, o, none⟩) n k] 33)).heap[Bn]? = w.heap[Bn]?) := by
        rw [Hid, Below.heap_alloc _ _ _ (by omega)]; exact HB.out
      have hsz2 : W.heap.size ≤ (wr.alloc (.cells #[.int .i64 (r : Int), .int .i64 (c : Int), .slice (some ⟨b, o, none⟩) n k] 33)).heap.size := by simp; omega
      gi_wp2_with (refine ⟨trivial, ?_⟩; gi_at_call 66; refine (callsIn_wide.2 (row_alloc (r : Int) c j b o n k _ hc hc1 (by omega) hjm hk hk2)).mono ?_; rintro e w' ⟨rfl, rfl⟩)
      clear hJ HB hsz a0 a1 a2
      refine hR.mono ?_
      rintro e W3 (⟨rfl, hJ3, hk3⟩ | ⟨rfl, hJx3⟩)
      · have HB3 : Hid (W3.heap[Bn]? = w.heap[Bn]?) := Lib.hid (hk3.2.trans hB2.out)
        have hsz3 := Nat.le_trans hsz2 hk3.1
        clear hk3 hB2 hsz2 hJ1
        gi_wp2
        go_roundw
        case rel => exact ⟨j + 1, by omega, by go_num, hJ3, HB3, hsz3⟩
        case measure => simp [intOf]; omega
      · gi_wp2
        refine bodyPost_ret (results_none rfl _ _ _) rfl ?_
        exact ⟨⟨_, rfl⟩, .inr ⟨finL r (j + 1) hjr, ⟨_, hjr, rfl⟩, hJx3⟩⟩
    · obtain rfl : j = r := by omega
      gi_wp2
      go_end0
      exact ⟨⟨_, rfl⟩, .inl ⟨_, rfl, hJ⟩⟩
end Go.Proofs.Ytdagnmhioellhaa
