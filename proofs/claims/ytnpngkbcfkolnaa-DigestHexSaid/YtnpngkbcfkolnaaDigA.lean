/- The digest's words: what the page says, in the walk's own operations; the reference's small walks. -/
import Derived.Test.YtnpngkbcfkolnaaKept
import Derived.Test.YtnpngkbcfkolnaaBits
import Derived.BigQuiet
import Derived.StillTailTactics
import Derived.Deep.RegionHeld3
import Derived.Deep.DeepCutAuto
import Derived.Deep.CutRange
import Derived.Deep.DrawnRows
namespace Go.Proofs.Ytnpngkbcfkolnaa
open Go.ChangeShapes Go.WideShapes Go.ChangeAt Go.RowKit Go.Joins
set_option linter.unusedVariables false
set_option linter.unusedSimpArgs false
attribute [local go_sem ↓] Go.wp_at_zero Go.wp_at_succ

/-- One word turned to the right. -/
def rotI (x : Int) (n : Nat) : Int := bits .or .u32 (x / 2 ^ n) (x * 2 ^ (32 - n) % 4294967296)

def u32s (vs : List Int) : List Value := vs.map (Value.int .u32)


/-- Four of sixteen words, at four places, in a block of which nothing else is said. -/
structure Four (w0 : World) (vs : List Int) (w : World) (g a b c d : Nat) (va vb vc vd : Int) : Prop where
  kept : Kept (· = g) w0 w
  at_ : CellsAt w g 0 (u32s ((((vs.set a va).set b vb).set c vc).set d vd))
  len : vs.length = 16
  ord : a < b ∧ b < c ∧ c < d ∧ d < 16
  bd : 0 ≤ va ∧ va < 4294967296 ∧ 0 ≤ vb ∧ vb < 4294967296 ∧ 0 ≤ vc ∧ vc < 4294967296 ∧ 0 ≤ vd ∧ vd < 4294967296

theorem u32s_get {w : World} {g o : Nat} {vs : List Int} (h : CellsAt w g o (u32s vs)) {i : Nat} {x : Int} (hx : vs[i]? = some x) : w.cell? ⟨g, o + i, none⟩ = some (.int .u32 x) ∧ w.frozen? ⟨g, o + i, none⟩ = false := by
  obtain ⟨hi, e⟩ := List.getElem?_eq_some_iff.1 hx
  obtain ⟨h1, h2⟩ := h.2 i (by simpa [u32s] using hi)
  refine ⟨?_, h2⟩
  rw [h1]
  simp [u32s, List.getD, hx]
theorem Four.facts {w0 w : World} {vs : List Int} {g a b c d : Nat} {va vb vc vd : Int} (h : Four w0 vs w g a b c d va vb vc vd) :
    w.cell? ⟨g, a, none⟩ = some (.int .u32 va) ∧ w.cell? ⟨g, b, none⟩ = some (.int .u32 vb) ∧ w.cell? ⟨g, c, none⟩ = some (.int .u32 vc) ∧ w.cell? ⟨g, d, none⟩ = some (.int .u32 vd) ∧
    w.frozen? ⟨g, a, none⟩ = false ∧ w.frozen? ⟨g, b, none⟩ = false ∧ w.frozen? ⟨g, c, none⟩ = false ∧ w.frozen? ⟨g, d, none⟩ = false := by
  obtain ⟨o1, o2, o3, o4⟩ := h.ord
  have hl := h.len
  have A := u32s_get h.at_ (i := a) (x := va) (by simp [List.getElem?_set, show d ≠ a by omega, show c ≠ a by omega, show b ≠ a by omega, hl]; omega)
  have B := u32s_get h.at_ (i := b) (x := vb) (by simp [List.getElem?_set, show d ≠ b by omega, show c ≠ b by omega, hl]; omega)
  have C := u32s_get h.at_ (i := c) (x := vc) (by simp [List.getElem?_set, show d ≠ c by omega, hl]; omega)
  have D := u32s_get h.at_ (i := d) (x := vd) (by simp [List.getElem?_set, hl]; omega)
  simp only [Nat.zero_add] at A B C D
  exact ⟨A.1, B.1, C.1, D.1, A.2, B.2, C.2, D.2⟩
theorem Four.drew {w0 w : World} {vs : List Int} {g a b c d : Nat} {va vb vc vd : Int} (h : Four w0 vs w g a b c d va vb vc vd) : Four w0 vs w.drew g a b c d va vb vc vd := ⟨h.kept.drew, h.at_, h.len, h.ord, h.bd⟩
theorem Four.drewN {w0 w : World} {vs : List Int} {g a b c d : Nat} {va vb vc vd : Int} (h : Four w0 vs w g a b c d va vb vc vd) (n : Nat) : Four w0 vs (w.drewN n) g a b c d va vb vc vd := ⟨h.kept.drewN n, h.at_, h.len, h.ord, h.bd⟩
theorem Four.alloc {w0 w : World} {vs : List Int} {g a b c d : Nat} {va vb vc vd : Int} (h : Four w0 vs w g a b c d va vb vc vd) (o : Obj) : Four w0 vs (w.alloc o) g a b c d va vb vc vd := ⟨h.kept.alloc o, h.at_.alloc o, h.len, h.ord, h.bd⟩
theorem u32s_set (vs : List Int) (i : Nat) (x : Int) : (u32s vs).set i (.int .u32 x) = u32s (vs.set i x) := by simp [u32s, List.map_set]
theorem Four.setA {w0 w : World} {vs : List Int} {g a b c d : Nat} {va vb vc vd : Int} (h : Four w0 vs w g a b c d va vb vc vd) (x : Int) (hx : 0 ≤ x ∧ x < 4294967296) : Four w0 vs (w.setCell ⟨g, a, none⟩ (.int .u32 x)) g a b c d x vb vc vd := by
  obtain ⟨o1, o2, o3, o4⟩ := h.ord
  have hc := h.at_.set (k := a) (by simp [u32s, h.len]; omega) (.int .u32 x)
  rw [u32s_set, Nat.zero_add, List.set_comm _ _ (show d ≠ a by omega), List.set_comm _ _ (show c ≠ a by omega), List.set_comm _ _ (show b ≠ a by omega), List.set_set] at hc
  exact ⟨h.kept.setCell (fun _ => rfl) _, hc, h.len, h.ord, ⟨hx.1, hx.2, h.bd.2.2⟩⟩
theorem Four.setB {w0 w : World} {vs : List Int} {g a b c d : Nat} {va vb vc vd : Int} (h : Four w0 vs w g a b c d va vb vc vd) (x : Int) (hx : 0 ≤ x ∧ x < 4294967296) : Four w0 vs (w.setCell ⟨g, b, none⟩ (.int .u32 x)) g a b c d va x vc vd := by
  obtain ⟨o1, o2, o3, o4⟩ := h.ord
  have hc := h.at_.set (k := b) (by simp [u32s, h.len]; omega) (.int .u32 x)
  rw [u32s_set, Nat.zero_add, List.set_comm _ _ (show d ≠ b by omega), List.set_comm _ _ (show c ≠ b by omega), List.set_set] at hc
  exact ⟨h.kept.setCell (fun _ => rfl) _, hc, h.len, h.ord, ⟨h.bd.1, h.bd.2.1, hx.1, hx.2, h.bd.2.2.2.2⟩⟩
theorem Four.setC {w0 w : World} {vs : List Int} {g a b c d : Nat} {va vb vc vd : Int} (h : Four w0 vs w g a b c d va vb vc vd) (x : Int) (hx : 0 ≤ x ∧ x < 4294967296) : Four w0 vs (w.setCell ⟨g, c, none⟩ (.int .u32 x)) g a b c d va vb x vd := by
  obtain ⟨o1, o2, o3, o4⟩ := h.ord
  have hc := h.at_.set (k := c) (by simp [u32s, h.len]; omega) (.int .u32 x)
  rw [u32s_set, Nat.zero_add, List.set_comm _ _ (show d ≠ c by omega), List.set_set] at hc
  exact ⟨h.kept.setCell (fun _ => rfl) _, hc, h.len, h.ord, ⟨h.bd.1, h.bd.2.1, h.bd.2.2.1, h.bd.2.2.2.1, hx.1, hx.2, h.bd.2.2.2.2.2.2⟩⟩
theorem Four.setD {w0 w : World} {vs : List Int} {g a b c d : Nat} {va vb vc vd : Int} (h : Four w0 vs w g a b c d va vb vc vd) (x : Int) (hx : 0 ≤ x ∧ x < 4294967296) : Four w0 vs (w.setCell ⟨g, d, none⟩ (.int .u32 x)) g a b c d va vb vc x := by
  obtain ⟨o1, o2, o3, o4⟩ := h.ord
  have hc := h.at_.set (k := d) (by simp [u32s, h.len]; omega) (.int .u32 x)
  rw [u32s_set, Nat.zero_add, List.set_set] at hc
  exact ⟨h.kept.setCell (fun _ => rfl) _, hc, h.len, h.ord, ⟨h.bd.1, h.bd.2.1, h.bd.2.2.1, h.bd.2.2.2.1, h.bd.2.2.2.2.1, h.bd.2.2.2.2.2.1, hx.1, hx.2⟩⟩

theorem mix_end {w0 W : World} {vs : List Int} {g a b c d i : Nat} {va vb vc vd z : Int} (h : Four w0 vs (W.setCell ⟨g, i, none⟩ (.int .u32 z)) g a b c d va vb vc vd) {W2 : World} {z' : Int} (e : z' = z) (e2 : ∃ n, W2 = (W.setCell ⟨g, i, none⟩ (.int .u32 z')).drewN n) : Hid (Four w0 vs W2 g a b c d va vb vc vd) := by
  subst e
  obtain ⟨n, rfl⟩ := e2
  exact h.drewN n

/-- Four words mixed, two turned in. -/
def mixV (va vb vc vd x y : Int) : Int × Int × Int × Int :=
  let a1 := ((va + vb) % 4294967296 + x) % 4294967296
  let d1 := rotI (bits .xor .u32 vd a1) 16
  let c1 := (vc + d1) % 4294967296
  let b1 := rotI (bits .xor .u32 vb c1) 12
  let a2 := ((a1 + b1) % 4294967296 + y) % 4294967296
  let d2 := rotI (bits .xor .u32 d1 a2) 8
  let c2 := (c1 + d2) % 4294967296
  let b2 := rotI (bits .xor .u32 b1 c2) 7
  (a2, b2, c2, d2)
theorem wrap32_bd (x : Int) : 0 ≤ IntKind.u32.wrap x ∧ IntKind.u32.wrap x < 4294967296 := by rw [IntKind.wrap_u32]; omega
theorem xor_bd (x y : Int) : 0 ≤ bits .xor .u32 x y ∧ bits .xor .u32 x y < 4294967296 := wrap32_bd _
theorem rot_bd (x : Int) (n : Nat) : 0 ≤ rotI x n ∧ rotI x n < 4294967296 := wrap32_bd _
theorem mod_bd (x : Int) : 0 ≤ x % 4294967296 ∧ x % 4294967296 < 4294967296 := by omega
theorem mixV_open (va vb vc vd x y : Int) : ∃ a1 d1 c1 b1 a2 d2 c2 b2 : Int, mixV va vb vc vd x y = (a2, b2, c2, d2) ∧
    Hid (a1 = ((va + vb) % 4294967296 + x) % 4294967296) ∧ Hid (d1 = rotI (bits .xor .u32 vd a1) 16) ∧ Hid (c1 = (vc + d1) % 4294967296) ∧ Hid (b1 = rotI (bits .xor .u32 vb c1) 12) ∧
    Hid (a2 = ((a1 + b1) % 4294967296 + y) % 4294967296) ∧ Hid (d2 = rotI (bits .xor .u32 d1 a2) 8) ∧ Hid (c2 = (c1 + d2) % 4294967296) ∧ Hid (b2 = rotI (bits .xor .u32 b1 c2) 7) ∧
    0 ≤ a1 ∧ 0 ≤ d1 ∧ 0 ≤ c1 ∧ 0 ≤ b1 ∧ 0 ≤ a2 ∧ 0 ≤ d2 ∧ 0 ≤ c2 ∧ 0 ≤ b2 ∧
    a1 < 4294967296 ∧ d1 < 4294967296 ∧ c1 < 4294967296 ∧ b1 < 4294967296 ∧ a2 < 4294967296 ∧ d2 < 4294967296 ∧ c2 < 4294967296 ∧ b2 < 4294967296 :=
  ⟨_, _, _, _, _, _, _, _, rfl, rfl, rfl, rfl, rfl, rfl, rfl, rfl, rfl, (mod_bd _).1, (rot_bd _ _).1, (mod_bd _).1, (rot_bd _ _).1, (mod_bd _).1, (rot_bd _ _).1, (mod_bd _).1, (rot_bd _ _).1,
    (mod_bd _).2, (rot_bd _ _).2, (mod_bd _).2, (rot_bd _ _).2, (mod_bd _).2, (rot_bd _ _).2, (mod_bd _).2, (rot_bd _ _).2⟩
/-- What a mix of four of sixteen words in a block comes to. -/
def MixOut (vs : List Int) (w : World) (g a b c d : Nat) (va vb vc vd x y : Int) (e : Ending) (w' : World) : Prop :=
  e = .returned (.tuple #[]) ∧ Four w vs w' g a b c d (mixV va vb vc vd x y).1 (mixV va vb vc vd x y).2.1 (mixV va vb vc vd x y).2.2.1 (mixV va vb vc vd x y).2.2.2


theorem or_comm32 (a b : Int) : bits .or .u32 a b = bits .or .u32 b a := by simp only [bits, BitVec.or_comm]

set_option maxRecDepth 100000 in
set_option maxHeartbeats 400000 in
theorem refTurned_any (x : Int) (n : Nat) (w : World) (hx : 0 ≤ x ∧ x < 4294967296) (hn : 0 < n ∧ n < 32) :
    Calls Try.prog 39 #[.int .u32 x, .int .i64 (n : Int)] w fun e w' => e = .returned (.int .u32 (rotI x n)) ∧ ∃ k, w' = w.drewN k := by
  go_enter Try.func39, Try.ntmps39
  go_wp2_with fail
  go_quiet (fail)
  go_wp2_with fail
  go_ret
  exact ⟨rfl, _, rfl⟩

set_option maxRecDepth 100000 in
set_option maxHeartbeats 400000 in
theorem rotl16_any (x : Int) (w : World) (hx : 0 ≤ x ∧ x < 4294967296) :
    Calls Try.prog 40 #[.int .u32 x, .int .i64 (-16)] w fun e w' => e = .returned (.int .u32 (rotI x 16)) ∧ ∃ k, w' = w.drewN k := by
  have e1 : bits .and .u64 (IntKind.u64.wrap (-16)) 31 = 16 := by decide
  have e2 : rotI x 16 = bits .or .u32 (x * 2 ^ 16 % 4294967296) (x / 2 ^ 16) := or_comm32 _ _
  have H2 := Lib.hid e2
  clear e2
  go_enter Try.func40, Try.ntmps40
  go_wp2_with fail
  go_ret
  exact ⟨by rw [H2.out]; rfl, 0, rfl⟩

set_option maxRecDepth 100000 in
set_option maxHeartbeats 400000 in
theorem rotl12_any (x : Int) (w : World) (hx : 0 ≤ x ∧ x < 4294967296) :
    Calls Try.prog 40 #[.int .u32 x, .int .i64 (-12)] w fun e w' => e = .returned (.int .u32 (rotI x 12)) ∧ ∃ k, w' = w.drewN k := by
  have e1 : bits .and .u64 (IntKind.u64.wrap (-12)) 31 = 20 := by decide
  have e2 : rotI x 12 = bits .or .u32 (x * 2 ^ 20 % 4294967296) (x / 2 ^ 12) := or_comm32 _ _
  have H2 := Lib.hid e2
  clear e2
  go_enter Try.func40, Try.ntmps40
  go_wp2_with fail
  go_ret
  exact ⟨by rw [H2.out]; rfl, 0, rfl⟩

set_option maxRecDepth 100000 in
set_option maxHeartbeats 400000 in
theorem rotl8_any (x : Int) (w : World) (hx : 0 ≤ x ∧ x < 4294967296) :
    Calls Try.prog 40 #[.int .u32 x, .int .i64 (-8)] w fun e w' => e = .returned (.int .u32 (rotI x 8)) ∧ ∃ k, w' = w.drewN k := by
  have e1 : bits .and .u64 (IntKind.u64.wrap (-8)) 31 = 24 := by decide
  have e2 : rotI x 8 = bits .or .u32 (x * 2 ^ 24 % 4294967296) (x / 2 ^ 8) := or_comm32 _ _
  have H2 := Lib.hid e2
  clear e2
  go_enter Try.func40, Try.ntmps40
  go_wp2_with fail
  go_ret
  exact ⟨by rw [H2.out]; rfl, 0, rfl⟩

set_option maxRecDepth 100000 in
set_option maxHeartbeats 400000 in
theorem rotl7_any (x : Int) (w : World) (hx : 0 ≤ x ∧ x < 4294967296) :
    Calls Try.prog 40 #[.int .u32 x, .int .i64 (-7)] w fun e w' => e = .returned (.int .u32 (rotI x 7)) ∧ ∃ k, w' = w.drewN k := by
  have e1 : bits .and .u64 (IntKind.u64.wrap (-7)) 31 = 25 := by decide
  have e2 : rotI x 7 = bits .or .u32 (x * 2 ^ 25 % 4294967296) (x / 2 ^ 7) := or_comm32 _ _
  have H2 := Lib.hid e2
  clear e2
  go_enter Try.func40, Try.ntmps40
  go_wp2_with fail
  go_ret
  exact ⟨by rw [H2.out]; rfl, 0, rfl⟩

end Go.Proofs.Ytnpngkbcfkolnaa
