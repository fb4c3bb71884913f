/- Answers that are written over: bytes (silolaw0.Bytes), walked. -/
import Derived.Test.YtibinkppbdeofaaPk04LawMatrixTells
import Derived.Test.YtibinkppbdeofaaPk08LawMatrixTells
import Derived.Test.YtibinkppbdeofaaPk01LawMatrixTells
import Derived.Test.YtibinkppbdeofaaPk20LawMatrixTells
import Derived.Test.YtibinkppbdeofaaPk21LawMatrixTells
import Derived.Test.YtibinkppbdeofaaPk16LawMatrixTells
namespace Go.Proofs.Ytibinkppbdeofaa
open Go.ChangeShapes Go.WideShapes Go.ChangeAt Go.RowKit Go.Joins
set_option linter.unusedVariables false
set_option linter.unusedSimpArgs false

/-- A block whose first n cells hold bytes, and may be written. -/
def U8Blk (w : World) (B n : Nat) : Prop := ∀ i, i < n → ∃ x : Int, (0 ≤ x ∧ x ≤ 255) ∧ w.cell? ⟨B, i, none⟩ = some (.int .u8 x) ∧ w.frozen? ⟨B, i, none⟩ = false
theorem U8Blk.next {w : World} {B n : Nat} (h : U8Blk w B n) (k : Nat) (x : Int) (hx : 0 ≤ x ∧ x ≤ 255) : U8Blk (w.setCell ⟨B, k, none⟩ (.int .u8 x)) B n := by
  intro i hi
  obtain ⟨t, h0, h1, h2⟩ := h i hi
  by_cases e : k = i
  · subst e
    exact ⟨x, hx, World.cell?_setCell_same' _ _ _ (by rw [h1]; rfl), by rw [World.frozen?_setCell]; exact h2⟩
  · exact ⟨t, h0, by rw [World.cell?_setCell_other _ _ _ _ (by simp [e])]; exact h1, by rw [World.frozen?_setCell]; exact h2⟩
theorem U8Blk.below {w w' : World} {B n : Nat} (h : U8Blk w B n) (hb : Below w.heap.size w w') : U8Blk w' B n := by
  intro i hi
  obtain ⟨t, h0, h1, h2⟩ := h i hi
  have hlt : B < w.heap.size := cell_block h1
  refine ⟨t, h0, by rw [hb.cell (p := ⟨B, i, none⟩) hlt]; exact h1, ?_⟩
  have e := hb.block B hlt
  unfold World.frozen? at *
  rw [e]; exact h2
theorem U8Blk.of_blk {w : World} {B : Nat} {ns : List Nat} (h : BytesBlk w B ns) : U8Blk w B ns.length := fun i hi => by
  obtain ⟨h1, h2, h3⟩ := h i hi
  exact ⟨_, by omega, h2, h3⟩
/-- A slice of bytes that may be written over, none of them in a block below B. -/
def SpoilB (B : Nat) (w : World) (v : Value) : Prop := ∃ A n c, v = .slice A n c ∧ n ≤ 1000000 ∧ (0 < n → ∃ b, A = some ⟨b, 0, none⟩ ∧ B ≤ b ∧ U8Blk w b n)
theorem SpoilB.below {B : Nat} {w w' : World} {v : Value} (h : SpoilB B w v) (hb : Below w.heap.size w w') : SpoilB B w' v := by
  obtain ⟨A, n, c, rfl, h1, h2⟩ := h
  refine ⟨A, n, c, rfl, h1, fun hn => ?_⟩
  obtain ⟨b, e, hB, hs⟩ := h2 hn
  exact ⟨b, e, hB, hs.below hb⟩
theorem SpoilB.nil (B : Nat) (w : World) (A : Option Addr) (c : Nat) : SpoilB B w (.slice A 0 c) := ⟨A, 0, c, rfl, by omega, fun h => absurd h (by omega)⟩

set_option maxRecDepth 100000 in
set_option maxHeartbeats 1000000 in
theorem bytes_spoilt (B : Nat) (v : Value) (w : World) (h : SpoilB B w v) :
    Calls Try.prog 29 #[v] w fun e w' => e = .returned (.tuple #[]) ∧ Below B w w' := by
  obtain ⟨A, n, c, rfl, hn, h2⟩ := h
  by_cases h0 : 0 < n
  · obtain ⟨b, rfl, hB, hs⟩ := h2 h0
    have HS0 := Lib.hid hs
    clear hs h2
    go_enter Try.func29, Try.ntmps29
    go_wp2_with fail
    go_loopw [2] (fun i wr => ∃ k : Nat, i = .int .i64 k ∧ k ≤ n ∧ Hid (U8Blk wr b n) ∧ Hid (Below B w wr)) (fun i _ => n - (intOf i).toNat)
    case atStart => exact ⟨0, rfl, by omega, HS0.out, Below.refl _ _⟩
    case round =>
      clear HS0
      obtain ⟨k, rfl, hk, HS, HB⟩ := hrel
      by_cases hlt : k < n
      · obtain ⟨t, ht, c1, c2⟩ := HS.out k hlt
        have HS1 := Lib.hid (HS.out.next k ((t + 1) % 256) (by omega))
        have HB1 := Lib.hid (HB.out.setCell (p := ⟨b, k, none⟩) hB (.int .u8 ((t + 1) % 256)))
        have i0 : (0 : Int) ≤ (k : Int) := by omega
        have i1 : (k : Int) < (n : Int) := by omega
        go_wp2_with fail
        go_roundw
        case rel => exact ⟨k + 1, by go_num, by omega, HS1.out, HB1.out⟩
        case measure => simp [intOf]; omega
      · go_wp2_with fail
        first
          | (refine bodyPost_ret (results_none rfl _ _ _) rfl ?_; exact ⟨rfl, HB.out⟩)
          | (go_end0; exact ⟨rfl, HB.out⟩)
  · obtain rfl : n = 0 := by omega
    clear h2
    go_enter Try.func29, Try.ntmps29
    go_wp2_with fail
    go_loopw [2] (fun i wr => i = .int .i64 0 ∧ Hid (Below B w wr)) (fun i _ => 0)
    case atStart => exact ⟨rfl, Below.refl _ _⟩
    case round =>
      obtain ⟨rfl, HB⟩ := hrel
      go_wp2_with fail
      first
        | (refine bodyPost_ret (results_none rfl _ _ _) rfl ?_; exact ⟨rfl, HB.out⟩)
        | (go_end0; exact ⟨rfl, HB.out⟩)
/-- A slice of bytes of a call's own, that may be written over. -/
def SpoilK (w w' : World) (v : Value) : Prop := ∃ A n c X, v = .slice A n c ∧ n ≤ 1000000 ∧ (0 < n → A = some ⟨X, 0, none⟩ ∧ w.heap.size ≤ X ∧ X < w'.heap.size ∧ U8Blk w' X n)
theorem SpoilK.nil (w w' : World) (A : Option Addr) (c : Nat) : SpoilK w w' (.slice A 0 c) := ⟨A, 0, c, 0, rfl, by omega, fun h => absurd h (by omega)⟩
/-- What may be written over, as it stands now. -/
def SpoilN (w : World) (v : Value) (X n : Nat) : Prop := ∃ A c, v = .slice A n c ∧ n ≤ 1000000 ∧ (0 < n → A = some ⟨X, 0, none⟩ ∧ U8Blk w X n)
theorem SpoilN.below {w w' : World} {v : Value} {X n : Nat} (h : SpoilN w v X n) (hb : Below w.heap.size w w') : SpoilN w' v X n := by
  obtain ⟨A, c, rfl, h1, h2⟩ := h
  exact ⟨A, c, rfl, h1, fun hn => ⟨(h2 hn).1, (h2 hn).2.below hb⟩⟩
theorem SpoilN.kept {w w' : World} {v : Value} {X n : Nat} {p : Nat → Prop} (h : SpoilN w v X n) (hk : Kept p w w') (hp : 0 < n → ¬ p X) : SpoilN w' v X n := by
  obtain ⟨A, c, rfl, h1, h2⟩ := h
  refine ⟨A, c, rfl, h1, fun hn => ⟨(h2 hn).1, fun i hi => ?_⟩⟩
  obtain ⟨x, hx, c1, c2⟩ := (h2 hn).2 i hi
  have hlt : X < w.heap.size := cell_block c1
  exact ⟨x, hx, hk.cell_eq c1 (hp hn), by rw [hk.frozen (d := ⟨X, i, none⟩) hlt (hp hn)]; exact c2⟩
theorem SpoilK.now {w w' : World} {v : Value} (h : SpoilK w w' v) : ∃ X n, SpoilN w' v X n ∧ (0 < n → w.heap.size ≤ X ∧ X < w'.heap.size) := by
  obtain ⟨A, n, c, X, rfl, h1, h2⟩ := h
  exact ⟨X, n, ⟨A, c, rfl, h1, fun hn => ⟨(h2 hn).1, (h2 hn).2.2.2⟩⟩, fun hn => ⟨(h2 hn).2.1, (h2 hn).2.2.1⟩⟩

set_option maxRecDepth 100000 in
set_option maxHeartbeats 1000000 in
theorem bytes_kept (v : Value) (X n : Nat) (w : World) (h : SpoilN w v X n) :
    Calls Try.prog 29 #[v] w fun e w' => e = .returned (.tuple #[]) ∧ Kept (fun j => 0 < n ∧ j = X) w w' := by
  obtain ⟨A, c, rfl, hn, h2⟩ := h
  by_cases h0 : 0 < n
  · obtain ⟨rfl, hs⟩ := h2 h0
    have HS0 := Lib.hid hs
    clear hs h2
    go_enter Try.func29, Try.ntmps29
    go_wp2_with fail
    go_loopw [2] (fun i wr => ∃ k : Nat, i = .int .i64 k ∧ k ≤ n ∧ Hid (U8Blk wr X n) ∧ Hid (Kept (fun j => 0 < n ∧ j = X) w wr)) (fun i _ => n - (intOf i).toNat)
    case atStart => exact ⟨0, rfl, by omega, HS0.out, Kept.refl _ _⟩
    case round =>
      clear HS0
      obtain ⟨k, rfl, hk, HS, HB⟩ := hrel
      by_cases hlt : k < n
      · obtain ⟨t, ht, c1, c2⟩ := HS.out k hlt
        have HS1 := Lib.hid (HS.out.next k ((t + 1) % 256) (by omega))
        have HB1 := Lib.hid (HB.out.setCell (d := ⟨X, k, none⟩) (fun _ => ⟨h0, rfl⟩) (.int .u8 ((t + 1) % 256)))
        have i0 : (0 : Int) ≤ (k : Int) := by omega
        have i1 : (k : Int) < (n : Int) := by omega
        go_wp2_with fail
        go_roundw
        case rel => exact ⟨k + 1, by go_num, by omega, HS1.out, HB1.out⟩
        case measure => simp [intOf]; omega
      · go_wp2_with fail
        first
          | (refine bodyPost_ret (results_none rfl _ _ _) rfl ?_; exact ⟨rfl, HB.out⟩)
          | (go_end0; exact ⟨rfl, HB.out⟩)
  · obtain rfl : n = 0 := by omega
    clear h2
    go_enter Try.func29, Try.ntmps29
    go_wp2_with fail
    go_loopw [2] (fun i wr => i = .int .i64 0 ∧ Hid (Kept (fun j => 0 < 0 ∧ j = X) w wr)) (fun i _ => 0)
    case atStart => exact ⟨rfl, Kept.refl _ _⟩
    case round =>
      obtain ⟨rfl, HB⟩ := hrel
      go_wp2_with fail
      first
        | (refine bodyPost_ret (results_none rfl _ _ _) rfl ?_; exact ⟨rfl, HB.out⟩)
        | (go_end0; exact ⟨rfl, HB.out⟩)
end Go.Proofs.Ytibinkppbdeofaa

/- matrix.Pick, where it may not, and matrix.Check, walked; Rank, Invert, Pick and Check, whatever comes in, as one contract each. -/

namespace Go.Proofs.Ytibinkppbdeofaa
open Go.ChangeShapes Go.WideShapes Go.ChangeAt Go.RowKit Go.Joins
set_option linter.unusedVariables false
set_option linter.unusedSimpArgs false

def pickK (R C : Int) (nm : Nat) (zs : List Int) : Bool := mayM R C nm && (decide (1 ≤ (zs.length : Int) ∧ (zs.length : Int) ≤ 16) && !zs.any (badI R))

set_option maxRecDepth 100000 in
set_option maxHeartbeats 1000000 in
theorem pick_no (R C : Int) (A : Option Addr) (nm k : Nat) (vN : Value) (zs : List Int) (w : World) (hN : NumsIn w vN zs) (hn : nm ≤ 9223372036854775807) (h : pickK R C nm zs = false) :
    Calls Try.prog 24 #[matV R C (.slice A nm k), vN] w fun e w' => e = .returned (.tuple #[matV 0 0 (.slice none 0 0), .int .i64 1]) ∧ Below w.heap.size w w' := by
  obtain ⟨o1, ho1⟩ : ∃ o', o' = (Obj.cells #[.int .i64 R, .int .i64 C, .slice A nm k] 30) := ⟨_, rfl⟩
  obtain ⟨o2, ho2⟩ : ∃ o', o' = (Obj.cells #[.int .i64 0, .int .i64 0, .slice none 0 0] 30) := ⟨_, rfl⟩
  have tA := Three.new w (.int .i64 R) (.int .i64 C) (.slice A nm k) 30
  rw [← ho1] at tA
  have tR := Three.new (w.alloc o1) (.int .i64 0) (.int .i64 0) (.slice none 0 0) 30
  rw [World.size_alloc, ← ho2] at tR
  have hbe : Below w.heap.size w ((w.alloc o1).alloc o2) := ((Below.refl w.heap.size w).alloc (Nat.le_refl _) o1).alloc (by simp) o2
  have HTA := Lib.hid (tA.alloc o2)
  have HTR := Lib.hid tR
  have HBE := Lib.hid hbe
  have HNW := Lib.hid (numsIn_belowP hN hbe)
  have HP := Lib.hid h
  obtain ⟨p, cap, rfl, hS⟩ := numsIn_slice hN
  have hz := hS.1
  obtain ⟨a0, a1, a2, _, _, _⟩ := tA.alloc o2
  rw [ho1, ho2] at a0 a1 a2
  clear hbe hN hS tA tR h
  unfold matV
  go_enter Try.func24, Try.ntmps24
  go_wp2_with fail
  rw [← ho1, ← ho2]
  clear a0 a1 a2 ho1 ho2
  generalize (w.alloc o1).alloc o2 = W0 at *
  have HC := mayM_any R C A nm k W0 hn
  unfold matV at HC
  with_reducible refine HC.mono ?_
  rintro e w1 ⟨rfl, hb1⟩
  clear HC
  obtain ⟨a0, a1, a2, _, _, _⟩ := HTA.out.below hb1
  have HN1 := Lib.hid (numsIn_belowP HNW.out hb1)
  have HB1 := Lib.hid (HBE.out.trans (hb1.mono HBE.out.size))
  obtain ⟨r0, r1, r2, r3, r4, r5⟩ := HTR.out.below hb1
  clear hb1
  have hfr := three_put (⟨r0, r1, r2, r3, r4, r5⟩ : Three w1 (w.heap.size + 1) _ _ _) (.int .i64 0) (.int .i64 0) (.slice none 0 0)
  have HFR := Lib.hid hfr
  clear hfr
  have hp := HP.out
  unfold pickK at hp
  clear HP
  cases h1 : mayM R C nm
  · clear hp
    go_wp2_with fail
    obtain ⟨t0, t1, t2, _, _, _⟩ := HFR.out
    refine bodyPost_ret (v := .tuple #[matV 0 0 (.slice none 0 0), .int .i64 1]) (by simp [results, Try.results24, go_sem, matV, t0, t1, t2]) rfl ⟨rfl, ?_⟩
    exact ((HB1.out.setCell (p := ⟨w.heap.size + 1, 0, none⟩) (by dsimp only; omega) _).setCell (p := ⟨w.heap.size + 1, 1, none⟩) (by dsimp only; omega) _).setCell (p := ⟨w.heap.size + 1, 2, none⟩) (by dsimp only; omega) _
  · rw [h1, Bool.true_and] at hp
    cases h2 : decide (1 ≤ (zs.length : Int) ∧ (zs.length : Int) ≤ 16)
    · have H2 := Lib.hid h2
      clear hp h1 h2
      go_wp2_with (first | (go_at_call 46; refine (side_is _ false H2.out _).mono ?_; rintro e w' ⟨rfl, rfl⟩))
      obtain ⟨t0, t1, t2, _, _, _⟩ := HFR.out
      refine bodyPost_ret (v := .tuple #[matV 0 0 (.slice none 0 0), .int .i64 1]) (by simp [results, Try.results24, go_sem, matV, t0, t1, t2]) rfl ⟨rfl, ?_⟩
      exact ((HB1.out.setCell (p := ⟨w.heap.size + 1, 0, none⟩) (by dsimp only; omega) _).setCell (p := ⟨w.heap.size + 1, 1, none⟩) (by dsimp only; omega) _).setCell (p := ⟨w.heap.size + 1, 2, none⟩) (by dsimp only; omega) _
    · rw [h2, Bool.true_and] at hp
      have H2 := Lib.hid h2
      have H3 : Hid (zs.any (badI R) = true) := by
        rw [Hid]
        cases h3 : zs.any (badI R)
        · rw [h3] at hp; cases hp
        · rfl
      clear hp h1 h2
      go_wp2_with (first
        | (go_at_call 46; refine (side_is _ true H2.out _).mono ?_; rintro e w' ⟨rfl, rfl⟩)
        | (go_at_call 50; refine (containsBad_is _ zs R w.heap.size true H3.out _ HN1.out a0).mono ?_; rintro e w' ⟨rfl, rfl⟩))
      obtain ⟨t0, t1, t2, _, _, _⟩ := HFR.out
      refine bodyPost_ret (v := .tuple #[matV 0 0 (.slice none 0 0), .int .i64 1]) (by simp [results, Try.results24, go_sem, matV, t0, t1, t2]) rfl ⟨rfl, ?_⟩
      exact ((HB1.out.setCell (p := ⟨w.heap.size + 1, 0, none⟩) (by dsimp only; omega) _).setCell (p := ⟨w.heap.size + 1, 1, none⟩) (by dsimp only; omega) _).setCell (p := ⟨w.heap.size + 1, 2, none⟩) (by dsimp only; omega) _

set_option maxRecDepth 100000 in
theorem check_is (R C : Int) (A : Option Addr) (nm c : Nat) (k : Bool) (hk : mayM R C nm = k) (w : World) (hn : nm ≤ 9223372036854775807) :
    Calls Try.prog 28 #[matV R C (.slice A nm c)] w fun e w' => e = .returned (.int .i64 (mulE k)) ∧ Below w.heap.size w w' := by
  have tA := Three.new w (.int .i64 R) (.int .i64 C) (.slice A nm c) 30
  have hbe := (Below.refl w.heap.size w).alloc (Nat.le_refl _) (.cells #[.int .i64 R, .int .i64 C, .slice A nm c] 30)
  have HBE := Lib.hid hbe
  have HK := Lib.hid hk
  obtain ⟨a0, a1, a2, _, _, _⟩ := tA
  clear hbe hk
  unfold matV
  go_enter Try.func28, Try.ntmps28
  go_wp2_with fail
  have HC := mayM_any R C A nm c (w.alloc (.cells #[.int .i64 R, .int .i64 C, .slice A nm c] 30)) hn
  unfold matV at HC
  with_reducible refine HC.mono ?_
  rintro e w1 ⟨rfl, hb1⟩
  rw [HK.out]
  have HB1 := Lib.hid (HBE.out.trans (hb1.mono HBE.out.size))
  clear HC hb1 a0 a1 a2
  cases k
  · go_wp2_with fail
    go_ret
    exact ⟨rfl, HB1.out⟩
  · go_wp2_with fail
    go_ret
    exact ⟨rfl, HB1.out⟩

/-- What Rank tells. -/
def rkV (k : Bool) (R C : Int) (ms : List Nat) : Int := if k then ((rankL R.toNat C.toNat ms : Nat) : Int) else 0
theorem rank_all (R C : Int) (va : Value) (ms : List Nat) (w : World) (ha : BytesV w va ms) (ra : RoomV va ms) (hla : ms.length ≤ 100000) (k : Bool) (hk : mayM R C ms.length = k) :
    Calls Try.prog 18 #[matV R C va] w fun e w' => e = .returned (.tuple #[.int .i64 (rkV k R C ms), .int .i64 (mulE k)]) ∧ Below w.heap.size w w' := by
  obtain ⟨A, c, rfl, h1, h2⟩ := ra
  cases k with
  | true =>
    obtain ⟨r, cc, rfl, rfl, r1, r16, c1, c16, hrc⟩ := mayM_yes hk
    have hn1 : 0 < ms.length := by rw [hrc]; exact Nat.mul_pos r1 c1
    obtain ⟨b3, o3, rfl, _, _⟩ := ha.at_ hn1
    exact rank_yes r cc b3 o3 c ms w ha hrc r1 r16 c1 c16
  | false => exact rank_no R C A ms.length c w (by omega) hk

/-- Whether there is an inverse; what is told. -/
def sqK (R C : Int) (nm : Nat) : Bool := mayM R C nm && decide (R = C)
def fullK (R C : Int) (ms : List Nat) : Bool := sqK R C ms.length && decide (rankL R.toNat R.toNat ms = R.toNat)
def invF (R C : Int) (ms : List Nat) : Int := if sqK R C ms.length then (if fullK R C ms then 0 else 3) else 1
def invX (k : Bool) (R : Int) (ms : List Nat) : List Nat := if k then invO R.toNat ms else []
theorem inv_all (R C : Int) (va : Value) (ms : List Nat) (w : World) (ha : BytesV w va ms) (ra : RoomV va ms) (hla : ms.length ≤ 100000) :
    Calls Try.prog 11 #[matV R C va] w fun e w' =>
      ∃ vl, e = .returned (.tuple #[matV (mulR (fullK R C ms) R) (mulR (fullK R C ms) R) vl, .int .i64 (invF R C ms)]) ∧ BytesV w' vl (invX (fullK R C ms) R ms) ∧ SpoilK w w' vl ∧ Below w.heap.size w w' := by
  obtain ⟨A, c, rfl, h1, h2⟩ := ra
  cases hs : sqK R C ms.length with
  | true =>
    have hs' := hs
    unfold sqK at hs'
    simp only [Bool.and_eq_true, decide_eq_true_eq] at hs'
    obtain ⟨m1, rfl⟩ := hs'
    obtain ⟨r, cc, rfl, e, r1, r16, c1, c16, hrc⟩ := mayM_yes m1
    obtain rfl : r = cc := by omega
    have hn1 : 0 < ms.length := by rw [hrc]; exact Nat.mul_pos r1 c1
    obtain ⟨b3, o3, rfl, _, _⟩ := ha.at_ hn1
    refine (invert_yes r b3 o3 c ms w ha hrc r1 r16).mono fun e w' ⟨v, he, hm, hbe⟩ => ?_
    rcases hm with ⟨hr, rfl⟩ | ⟨hr, hm⟩
    · have hf : fullK (r : Int) (r : Int) ms = false := by
        rw [fullK, hs, Int.toNat_natCast, decide_eq_false (by omega)]; rfl
      have hi : invF (r : Int) (r : Int) ms = 3 := by rw [invF, hs, hf]; rfl
      have hE : invE r ms = 3 := by rw [invE, if_pos hr]
      rw [hf, hi]
      rw [hE] at he
      exact ⟨_, he, bytesV_nil _ _ _, SpoilK.nil _ _ _ _, hbe⟩
    · have hf : fullK (r : Int) (r : Int) ms = true := by
        rw [fullK, hs, Int.toNat_natCast, decide_eq_true hr]; rfl
      have hi : invF (r : Int) (r : Int) ms = 0 := by rw [invF, hs, hf]; rfl
      have hE : invE r ms = 0 := by rw [invE, if_neg (by omega)]
      rw [hf, hi]
      rw [hE] at he
      have hm' := hm
      obtain ⟨B, hB1, hB2, rfl, hblk, hlen⟩ := hm
      have hbv := BytesV.of_blk (c := r * r) hblk hB2
      rw [hlen] at hbv
      refine ⟨_, he, hbv, ⟨_, _, _, B, rfl, by have := Nat.mul_le_mul r16 r16; omega, fun _ => ⟨rfl, hB1, hB2, ?_⟩⟩, hbe⟩
      have := U8Blk.of_blk hblk
      rw [hlen] at this
      exact this
  | false =>
    have hf : fullK R C ms = false := by rw [fullK, hs]; rfl
    have hi : invF R C ms = 1 := by rw [invF, hs]; rfl
    rw [hf, hi]
    refine (invert_no R C A ms.length c w (by omega) ?_).mono fun e w' ⟨he, hbe⟩ => ⟨_, he, bytesV_nil _ _ _, SpoilK.nil _ _ _ _, hbe⟩
    unfold sqK at hs
    simp only [Bool.and_eq_false_iff, decide_eq_false_iff_not] at hs
    exact hs

/-- What Pick tells. -/
def pickX (k : Bool) (ms : List Nat) (C : Int) (zs : List Int) : List Nat := if k then pickL ms C.toNat zs else []
theorem pick_room {ms : List Nat} {r c : Nat} {zs : List Int} (hrc : ms.length = r * c) (hz : ∀ z ∈ zs, 0 ≤ z ∧ z < (r : Int)) : (pickL ms c zs).length = zs.length * c :=
  rowL_length fun z h => by
    have := hz z h
    rw [hrc]
    exact Nat.mul_le_mul_right c (by omega)
theorem pickL_lt {ms : List Nat} {c : Nat} {zs : List Int} (h : ∀ x ∈ ms, x < 256) : ∀ x ∈ pickL ms c zs, x < 256 := by
  intro x hx
  obtain ⟨z, _, hz⟩ := List.mem_flatMap.1 hx
  exact rowN_lt h x hz
theorem pickK_yes {R C : Int} {nm : Nat} {zs : List Int} (h : pickK R C nm zs = true) : mayM R C nm = true ∧ 1 ≤ zs.length ∧ zs.length ≤ 16 ∧ ∀ z ∈ zs, 0 ≤ z ∧ z < R := by
  unfold pickK at h
  simp only [Bool.and_eq_true, decide_eq_true_eq, Bool.not_eq_true', List.any_eq_false] at h
  refine ⟨h.1, by omega, by omega, fun z hz => ?_⟩
  have := h.2.2 z hz
  simp [badI] at this
  omega
theorem spoilK_own {w0 w : World} {n : Nat} {e : TypeId} {v : Value} {ns : List Nat} (h : w.ownsRow w0.heap.size e 1 v n (u8s ns)) (hb : ∀ x ∈ ns, x < 256) (hn : n ≤ 1000000) : SpoilK w0 w v := by
  by_cases h0 : 0 < n
  · obtain ⟨g, cap, rfl, hB, hlt, h1, h2, h3, h4⟩ := own_blk h h0 hb
    refine ⟨_, _, _, g, rfl, hn, fun _ => ⟨rfl, hB, hlt, ?_⟩⟩
    rw [h3]; exact U8Blk.of_blk h4
  · obtain ⟨A, c, rfl⟩ := own_shape h
    obtain rfl : n = 0 := by omega
    exact SpoilK.nil _ _ _ _
theorem bytesV_own {w : World} {B n : Nat} {e : TypeId} {v : Value} {ns : List Nat} (h : w.ownsRow B e 1 v n (u8s ns)) (hb : ∀ x ∈ ns, x < 256) : BytesV w v ns := by
  have h1 := RowIs.of_own h
  have h2 : n = ns.length := by have := h1.1; rw [u8s_length] at this; omega
  rw [h2] at h1
  exact ⟨h1, hb⟩
theorem pick_all (R C : Int) (va vN : Value) (ms : List Nat) (zs : List Int) (w : World) (ha : BytesV w va ms) (ra : RoomV va ms) (hN : NumsIn w vN zs) (hla : ms.length ≤ 100000) (k : Bool) (hk : pickK R C ms.length zs = k) :
    Calls Try.prog 24 #[matV R C va, vN] w fun e w' =>
      ∃ vl, e = .returned (.tuple #[matV (mulR k (zs.length : Int)) (mulR k C) vl, .int .i64 (mulE k)]) ∧ BytesV w' vl (pickX k ms C zs) ∧ SpoilK w w' vl ∧ Below w.heap.size w w' := by
  obtain ⟨A, c, rfl, h1, h2⟩ := ra
  cases k with
  | true =>
    obtain ⟨m1, z1, z16, hz⟩ := pickK_yes hk
    obtain ⟨r, cc, rfl, rfl, r1, r16, c1, c16, hrc⟩ := mayM_yes m1
    have hn1 : 0 < ms.length := by rw [hrc]; exact Nat.mul_pos r1 c1
    obtain ⟨b3, o3, rfl, _, _⟩ := ha.at_ hn1
    refine (pick_yes r cc b3 o3 c ms vN zs w ha hN hrc r1 r16 c1 c16 h1 h2 z1 z16 hz).mono fun e w' ⟨v, he, hown, hbe⟩ => ?_
    exact ⟨v, he, bytesV_own hown (pickL_lt ha.2), spoilK_own hown (pickL_lt ha.2) (by have := Nat.mul_le_mul z16 c16; omega), hbe⟩
  | false => exact (pick_no R C A ms.length c vN zs w hN (by omega) hk).mono fun e w' ⟨he, hbe⟩ => ⟨_, he, bytesV_nil _ _ _, SpoilK.nil _ _ _ _, hbe⟩
theorem refPick_all (r c : Nat) (va vN : Value) (ms : List Nat) (zs : List Int) (w : World) (ha : BytesV w va ms) (ra : RoomV va ms) (hN : NumsIn w vN zs) (hk : pickK (r : Int) (c : Int) ms.length zs = true) :
    Calls Try.prog 27 #[matV (r : Int) (c : Int) va, vN] w fun e w' => ∃ vl, e = .returned (matV (zs.length : Int) (c : Int) vl) ∧ BytesV w' vl (pickL ms c zs) ∧ Below w.heap.size w w' := by
  obtain ⟨A, k, rfl, h1, h2⟩ := ra
  obtain ⟨m1, z1, z16, hz⟩ := pickK_yes hk
  obtain ⟨r', cc, e1, e2, r1, r16, c1, c16, hrc⟩ := mayM_yes m1
  obtain rfl : r = r' := by omega
  obtain rfl : c = cc := by omega
  have hn1 : 0 < ms.length := by rw [hrc]; exact Nat.mul_pos r1 c1
  obtain ⟨b3, o3, rfl, _, _⟩ := ha.at_ hn1
  exact (refPick_any r c b3 o3 k ms vN zs w ha hN hrc r1 r16 c1 c16 h1 h2 z1 z16 hz).mono fun e w' ⟨v, he, hown, hbe⟩ => ⟨v, he, bytesV_own hown (pickL_lt ha.2), hbe⟩
/-- What One tells. -/
def oneX (k : Bool) (z : Int) : List Nat := if k then oneL z.toNat z.toNat else []
theorem one_all (z : Int) (k : Bool) (hk : decide (1 ≤ z ∧ z ≤ 16) = k) (w : World) :
    Calls Try.prog 21 #[.int .i64 z] w fun e w' => ∃ vl, e = .returned (.tuple #[matV (mulR k z) (mulR k z) vl, .int .i64 (mulE k)]) ∧ BytesV w' vl (oneX k z) ∧ Below w.heap.size w w' := by
  cases k with
  | true =>
    have h := of_decide_eq_true hk
    obtain ⟨n, rfl⟩ : ∃ n : Nat, z = (n : Int) := ⟨z.toNat, by omega⟩
    refine (one_yes n (by omega) (by omega) w).mono fun e w' ⟨v, he, hm, hbe⟩ => ?_
    obtain ⟨vl, rfl, hvl⟩ := hm.bytes
    exact ⟨vl, he, hvl, hbe⟩
  | false => exact (one_no z (of_decide_eq_false hk) w).mono fun e w' ⟨he, hbe⟩ => ⟨_, he, bytesV_nil _ _ _, hbe⟩
end Go.Proofs.Ytibinkppbdeofaa
