/- Matrices copied and compared; walked. -/
import Derived.Test.YtibinkppbdeofaaMatC
namespace Go.Proofs.Ytibinkppbdeofaa
open Go.ChangeShapes Go.WideShapes Go.ChangeAt Go.RowKit Go.Joins
set_option linter.unusedVariables false
set_option linter.unusedSimpArgs false

/-- Three cells of a block, that may be written. -/
structure Three (w : World) (B : Nat) (a b c : Value) : Prop where
  c0 : w.cell? ⟨B, 0, none⟩ = some a
  c1 : w.cell? ⟨B, 1, none⟩ = some b
  c2 : w.cell? ⟨B, 2, none⟩ = some c
  f0 : w.frozen? ⟨B, 0, none⟩ = false
  f1 : w.frozen? ⟨B, 1, none⟩ = false
  f2 : w.frozen? ⟨B, 2, none⟩ = false
theorem Three.new (w : World) (a b c : Value) (T : TypeId) : Three (w.alloc (.cells #[a, b, c] T)) w.heap.size a b c :=
  ⟨by simp [go_sem], by simp [go_sem], by simp [go_sem], by simp [go_sem], by simp [go_sem], by simp [go_sem]⟩
theorem Three.below {w w' : World} {B : Nat} {a b c : Value} (h : Three w B a b c) (hb : Below w.heap.size w w') : Three w' B a b c := by
  have hl := cell_block h.c0
  have k := Kept.of_below (p := fun _ => False) hb
  exact ⟨by rw [k.cell (d := ⟨B, 0, none⟩) hl id]; exact h.c0, by rw [k.cell (d := ⟨B, 1, none⟩) hl id]; exact h.c1, by rw [k.cell (d := ⟨B, 2, none⟩) hl id]; exact h.c2,
    by rw [k.frozen (d := ⟨B, 0, none⟩) hl id]; exact h.f0, by rw [k.frozen (d := ⟨B, 1, none⟩) hl id]; exact h.f1, by rw [k.frozen (d := ⟨B, 2, none⟩) hl id]; exact h.f2⟩
theorem Three.alloc {w : World} {B : Nat} {a b c : Value} (h : Three w B a b c) (o : Obj) : Three (w.alloc o) B a b c := h.below ((Below.refl _ _).alloc (Nat.le_refl _) o)

theorem own_kept {p : Nat → Prop} {w w' : World} {B k n : Nat} {e : TypeId} {v : Value} {xs : List Value} (h : w.ownsRow B e k v n xs) (hk : Kept p w w') (hp : ∀ g, B ≤ g → ¬ p g) : w'.ownsRow B e k v n xs := by
  refine ⟨h.1, ?_⟩
  rcases h.2 with h2 | ⟨g, cap, cur, h1, h2, h3, h4⟩
  · exact Or.inl h2
  · refine Or.inr ⟨g, cap, cur, h1, h2, ?_, h4⟩
    rw [hk.block g (Array.getElem?_eq_some_iff.1 h3).1 (hp g h2)]; exact h3
theorem own_base {w : World} {B B' k n : Nat} {e : TypeId} {v : Value} {xs : List Value} (h : w.ownsRow B e k v n xs) (hB : B' ≤ B) : w.ownsRow B' e k v n xs := by
  refine ⟨h.1, ?_⟩
  rcases h.2 with h2 | ⟨g, cap, cur, h1, h2, h3⟩
  · exact Or.inl h2
  · exact Or.inr ⟨g, cap, cur, h1, by omega, h3⟩
theorem own_cell {w : World} {B k n : Nat} {e : TypeId} {v u : Value} {xs : List Value} (h : w.ownsRow B e k v n xs) {d : Addr} (hd : d.block < B) : (w.setCell d u).ownsRow B e k v n xs :=
  own_kept (p := fun j => j = d.block) h ((Kept.refl (fun j => j = d.block) w).setCell (d := d) (fun _ => rfl) u) (fun g hg e => by omega)

theorem cum2 {W a b : World} (h : Below W.heap.size W a) (hb : Below a.heap.size a b) : Below W.heap.size W b := h.trans (hb.mono h.size)

set_option maxRecDepth 100000 in
set_option maxHeartbeats 1000000 in
theorem own_any (R C : Int) (b o n k : Nat) (ns : List Nat) (w : World) (h : BytesV w (.slice (some ⟨b, o, none⟩) n k) ns) (hl : ns.length ≤ 100000) (h0 : 0 < ns.length) :
    Calls Try.prog 40 #[matV R C (.slice (some ⟨b, o, none⟩) n k)] w fun e w' => ∃ r, e = .returned (matV R C r) ∧ w'.ownsRow w.heap.size 5 1 r ns.length (u8s ns) ∧ Below w.heap.size w w' := by
  have hb1 := (Below.refl w.heap.size w).alloc (Nat.le_refl _) (.cells #[.int .i64 R, .int .i64 C, .slice (some ⟨b, o, none⟩) n k] 30)
  have hb2 := hb1.alloc hb1.size (.cells #[.int .i64 0, .int .i64 0, .slice none 0 0] 30)
  have ht1 := (Three.new w (.int .i64 R) (.int .i64 C) (.slice (some ⟨b, o, none⟩) n k) 30).alloc (.cells #[.int .i64 0, .int .i64 0, .slice none 0 0] 30)
  have ht2 := Three.new (w.alloc (.cells #[.int .i64 R, .int .i64 C, .slice (some ⟨b, o, none⟩) n k] 30)) (.int .i64 0) (.int .i64 0) (.slice none 0 0) 30
  rw [World.size_alloc] at ht2
  have HB := Lib.hid hb2
  have HT1 := Lib.hid ht1
  have HT2 := Lib.hid ht2
  have HS := Lib.hid (h.below hb2)
  clear h hb1 hb2 ht1 ht2
  unfold matV
  go_enter Try.func40, Try.ntmps40
  go_wp2_with fail
  refine (clone_any b o n k ns _ HS.out hl h0).mono ?_
  rintro e w1 ⟨r, rfl, hown, hb⟩
  obtain ⟨Ar, cr, rfl⟩ := own_shape hown
  obtain ⟨a0, a1, a2, f0, f1, f2⟩ := HT1.out.below hb
  obtain ⟨g0, g1, g2, h0', h1, h2⟩ := HT2.out.below hb
  have hx := cum2 HB.out hb
  simp only [World.size_alloc] at hown
  have HOWN := Lib.hid hown
  clear hb HB HT1 HT2 HS hown
  go_wp2_with fail
  refine bodyPost_ret (v := matV R C (.slice Ar ns.length cr)) (by simp [results, Try.results40, go_sem, matV, *]) rfl ⟨_, rfl, ?_, ?_⟩
  · exact own_base (own_cell (own_cell (own_cell (own_cell HOWN.out (by dsimp only; omega)) (by dsimp only; omega)) (by dsimp only; omega)) (by dsimp only; omega)) (by omega)
  · exact (((hx.setCell (p := ⟨w.heap.size, 2, none⟩) (by simp) _).setCell (p := ⟨w.heap.size + 1, 0, none⟩) (by simp) _).setCell (p := ⟨w.heap.size + 1, 1, none⟩) (by simp) _).setCell (p := ⟨w.heap.size + 1, 2, none⟩) (by simp) _

set_option maxRecDepth 100000 in
set_option maxHeartbeats 1000000 in
theorem copyMatrix_any (R C : Int) (v : Value) (ns : List Nat) (w : World) (h : BytesV w v ns) (hl : ns.length ≤ 100000) :
    Calls Try.prog 22 #[matV R C v] w fun e w' => ∃ r, e = .returned (matV R C r) ∧ w'.ownsRow w.heap.size 5 1 r ns.length (u8s ns) ∧ Below w.heap.size w w' := by
  obtain ⟨A, k, rfl⟩ := h.shape
  have hb1 := (Below.refl w.heap.size w).alloc (Nat.le_refl _) (.cells #[.int .i64 R, .int .i64 C, .slice A ns.length k] 30)
  have hb2 := hb1.alloc hb1.size (.cells #[.int .i64 0, .int .i64 0, .slice none 0 0] 30)
  have hb3 := hb2.alloc hb2.size (.cells #[.int .i64 R, .int .i64 C, .slice A ns.length k] 30)
  have ht2 := (Three.new (w.alloc (.cells #[.int .i64 R, .int .i64 C, .slice A ns.length k] 30)) (.int .i64 0) (.int .i64 0) (.slice none 0 0) 30).alloc (.cells #[.int .i64 R, .int .i64 C, .slice A ns.length k] 30)
  have ht3 := Three.new ((w.alloc (.cells #[.int .i64 R, .int .i64 C, .slice A ns.length k] 30)).alloc (.cells #[.int .i64 0, .int .i64 0, .slice none 0 0] 30)) (.int .i64 R) (.int .i64 C) (.slice A ns.length k) 30
  simp only [World.size_alloc] at ht2 ht3
  have HB := Lib.hid hb3
  have HT2 := Lib.hid ht2
  have HT3 := Lib.hid ht3
  have HS := Lib.hid (h.below hb3)
  clear h hb1 hb2 hb3 ht2 ht3
  unfold matV
  go_enter Try.func22, Try.ntmps22
  go_wp2_with fail
  refine (copyBytes_any _ ns _ HS.out hl).mono ?_
  rintro e w1 ⟨r, rfl, hown, hb⟩
  obtain ⟨Ar, cr, rfl⟩ := own_shape hown
  obtain ⟨g0, g1, g2, k0, k1, k2⟩ := HT2.out.below hb
  obtain ⟨a0, a1, a2, f0, f1, f2⟩ := HT3.out.below hb
  have hx := cum2 HB.out hb
  simp only [World.size_alloc] at hown
  have HOWN := Lib.hid hown
  clear hb HB HT2 HT3 HS hown
  go_wp2_with fail
  refine bodyPost_ret (v := matV R C (.slice Ar ns.length cr)) (by simp [results, Try.results22, go_sem, matV, *]) rfl ⟨_, rfl, ?_, ?_⟩
  · exact own_base (own_cell (own_cell (own_cell (own_cell HOWN.out (by dsimp only; omega)) (by dsimp only; omega)) (by dsimp only; omega)) (by dsimp only; omega)) (by omega)
  · exact (((hx.setCell (p := ⟨w.heap.size + 1 + 1, 2, none⟩) (by simp; omega) _).setCell (p := ⟨w.heap.size + 1, 0, none⟩) (by simp) _).setCell (p := ⟨w.heap.size + 1, 1, none⟩) (by simp) _).setCell (p := ⟨w.heap.size + 1, 2, none⟩) (by simp) _
end Go.Proofs.Ytibinkppbdeofaa
