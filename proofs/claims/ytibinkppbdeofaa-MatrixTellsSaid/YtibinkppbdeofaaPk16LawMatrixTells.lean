/- matrix.Rank, siloref1.Rank, walked. -/
import Derived.Test.YtibinkppbdeofaaPk14LawMatrixTells
import Derived.Test.YtibinkppbdeofaaPk15LawMatrixTells
import Derived.Test.YtibinkppbdeofaaPk09LawMatrixTells
import Derived.Deep.RegionHeld3
namespace Go.Proofs.Ytibinkppbdeofaa
open Go.ChangeShapes Go.WideShapes Go.ChangeAt Go.RowKit Go.Joins Go.Shelf
set_option linter.unusedVariables false
set_option linter.unusedSimpArgs false

theorem clrAll_fst (ca co co' c rank n : Nat) (M O O' : List Nat) : (clrAll ca co c rank n (M, O)).1 = (clrAll ca co' c rank n (M, O')).1 := by
  induction n with
  | zero => rfl
  | succ n ih =>
    rw [clrAll_succ, clrAll_succ, clrStep, clrStep]
    split
    · exact ih
    · dsimp only; rw [ih]
theorem elim_indep (ra ca co co' : Nat) (M O O' : List Nat) (n : Nat) : (elim ra ca co M O n).1 = (elim ra ca co' M O' n).1 ∧ (elim ra ca co M O n).2.2 = (elim ra ca co' M O' n).2.2 := by
  induction n with
  | zero => exact ⟨rfl, rfl⟩
  | succ n ih =>
    rw [elim_succ, elim_succ]
    generalize elim ra ca co M O n = S at *
    generalize elim ra ca co' M O' n = T at *
    obtain ⟨S1, S2, S3⟩ := S
    obtain ⟨T1, T2, T3⟩ := T
    obtain ⟨e1, e2⟩ := ih
    dsimp only at e1 e2
    subst e1 e2
    unfold colStep
    dsimp only
    split
    · exact ⟨clrAll_fst _ _ _ _ _ _ _ _ _, rfl⟩
    · exact ⟨rfl, rfl⟩
/-- The rank. -/
def rankL (ra ca : Nat) (ns : List Nat) : Nat := (elim ra ca 1 ns [] ca).2.2
theorem rankL_of (ra ca co : Nat) (ns O : List Nat) : (elim ra ca co ns O ca).2.2 = rankL ra ca ns := (elim_indep ra ca co 1 ns O [] ca).2
theorem rankL_le (ra ca : Nat) (ns : List Nat) : rankL ra ca ns ≤ ra ∧ rankL ra ca ns ≤ ca := elim_rank ra ca 1 ns [] ca

theorem solve_at (ra ca co B1 B2 n1 n2 k1 k2 : Nat) (M O : List Nat) (w : World) (h1 : BytesBlk w B1 M) (h2 : BytesBlk w B2 O) (hB1 : B1 < w.heap.size) (hB2 : B2 < w.heap.size) (hne : B1 ≠ B2)
    (hn1 : n1 = M.length) (hn2 : n2 = O.length) (hM : M.length = ra * ca) (hO : O.length = ra * co) (r1 : 1 ≤ ra) (r16 : ra ≤ 16) (c1 : 1 ≤ ca) (c16 : ca ≤ 16) (o1 : 1 ≤ co) (o16 : co ≤ 16) (hk1 : n1 ≤ k1) (hk1' : k1 ≤ 9223372036854775807) (hk2 : n2 ≤ k2) (hk2' : k2 ≤ 9223372036854775807) :
    Calls Try.prog 39 #[matV (ra : Int) (ca : Int) (.slice (some ⟨B1, 0, none⟩) n1 k1), matV (ra : Int) (co : Int) (.slice (some ⟨B2, 0, none⟩) n2 k2)] w fun e w' =>
      e = .returned (.int .i64 ((rankL ra ca M : Nat) : Int)) ∧ BytesBlk w' B2 (elim ra ca co M O ca).2.1 ∧ Kept (fun j => j = B1 ∨ j = B2) w w' := by
  subst hn1 hn2
  refine (solve_any ra ca co B1 B2 k1 k2 M O w h1 h2 hB1 hB2 hne hM hO r1 r16 c1 c16 o1 o16 hk1 hk1' hk2 hk2').mono ?_
  rintro e w' ⟨rfl, _, hb, hk⟩
  exact ⟨by rw [rankL_of], hb, hk⟩

theorem empty_one (r : Nat) (w : World) (hr : r ≤ 16) :
    Calls Try.prog 44 #[.int .i64 (r : Int), .int .i64 1] w fun e w' => ∃ B, w.heap.size ≤ B ∧ B < w'.heap.size ∧ e = .returned (matV (r : Int) 1 (.slice (some ⟨B, 0, none⟩) r r)) ∧ BytesBlk w' B (List.replicate r 0) ∧ Below w.heap.size w w' := by
  have h := empty_any r 1 w hr (by omega)
  simp only [Nat.mul_one] at h
  exact h
theorem solve_one (ra ca B1 B2 n1 k1 k2 : Nat) (M O : List Nat) (w : World) (h1 : BytesBlk w B1 M) (h2 : BytesBlk w B2 O) (hB1 : B1 < w.heap.size) (hB2 : B2 < w.heap.size) (hne : B1 ≠ B2)
    (hn1 : n1 = M.length) (hM : M.length = ra * ca) (hO : O.length = ra) (r1 : 1 ≤ ra) (r16 : ra ≤ 16) (c1 : 1 ≤ ca) (c16 : ca ≤ 16) (hk1 : n1 ≤ k1) (hk1' : k1 ≤ 9223372036854775807) (hk2 : ra ≤ k2) (hk2' : k2 ≤ 9223372036854775807) :
    Calls Try.prog 39 #[matV (ra : Int) (ca : Int) (.slice (some ⟨B1, 0, none⟩) n1 k1), matV (ra : Int) 1 (.slice (some ⟨B2, 0, none⟩) ra k2)] w fun e w' =>
      e = .returned (.int .i64 ((rankL ra ca M : Nat) : Int)) ∧ Kept (fun j => j = B1 ∨ j = B2) w w' :=
  (solve_at ra ca 1 B1 B2 n1 ra k1 k2 M O w h1 h2 hB1 hB2 hne hn1 hO.symm hM (by rw [hO, Nat.mul_one]) r1 r16 c1 c16 (by omega) (by omega) hk1 hk1' hk2 hk2').mono fun e w' h => ⟨h.1, h.2.2⟩

set_option maxRecDepth 100000 in
set_option maxHeartbeats 4000000 in
theorem rank_yes (ra ca b o k : Nat) (ns : List Nat) (w : World) (h : BytesV w (.slice (some ⟨b, o, none⟩) ns.length k) ns) (hl : ns.length = ra * ca) (r1 : 1 ≤ ra) (r16 : ra ≤ 16) (c1 : 1 ≤ ca) (c16 : ca ≤ 16) :
    Calls Try.prog 18 #[matV (ra : Int) (ca : Int) (.slice (some ⟨b, o, none⟩) ns.length k)] w fun e w' => e = .returned (.tuple #[.int .i64 ((rankL ra ca ns : Nat) : Int), .int .i64 0]) ∧ Below w.heap.size w w' := by
  have HMA := Lib.hid (mayM_of r1 r16 c1 c16 hl)
  have hns : 1 ≤ ns.length := by rw [hl]; exact Nat.mul_le_mul r1 c1
  have hns2 : ns.length ≤ 256 := by rw [hl]; exact Nat.mul_le_mul r16 c16
  have tA := Three.new w (.int .i64 (ra : Int)) (.int .i64 (ca : Int)) (.slice (some ⟨b, o, none⟩) ns.length k) 30
  have hbe := (Below.refl w.heap.size w).alloc (Nat.le_refl _) (.cells #[.int .i64 (ra : Int), .int .i64 (ca : Int), .slice (some ⟨b, o, none⟩) ns.length k] 30)
  have hsz : (w.alloc (.cells #[.int .i64 (ra : Int), .int .i64 (ca : Int), .slice (some ⟨b, o, none⟩) ns.length k] 30)).heap.size = w.heap.size + 1 := by simp
  have TA := Lib.hid tA
  have HBE := Lib.hid hbe
  have HSZ := Lib.hid hsz
  have H := Lib.hid (h.below hbe)
  have HL := Lib.hid hl
  clear tA hbe h hl hsz
  unfold matV
  go_enter Try.func18, Try.ntmps18
  go_wp2_with fail
  generalize w.alloc (.cells #[.int .i64 (ra : Int), .int .i64 (ca : Int), .slice (some ⟨b, o, none⟩) ns.length k] 30) = W0 at *
  refine (mayM_any (ra : Int) (ca : Int) (some ⟨b, o, none⟩) ns.length k _ (by omega)).mono ?_
  rintro e w1 ⟨rfl, hb1⟩
  rw [HMA.out]
  have HB1 := Lib.hid hb1
  have H1 := Lib.hid (H.out.below hb1)
  obtain ⟨a0, a1, a2, _, _, _⟩ := TA.out.below hb1
  have hs1 := hb1.size
  have hz := HSZ.out
  clear hb1 H
  have HLT : Hid (∀ x ∈ ns, x < 256) := H1.out.2
  have hmx : maxLen ≤ 9223372036854775807 := by unfold maxLen; omega
  have HK : Hid (∀ W', Below w1.heap.size w1 W' → W'.cell? ⟨w.heap.size, 0, none⟩ = some (.int .i64 (ra : Int)) ∧ W'.cell? ⟨w.heap.size, 1, none⟩ = some (.int .i64 (ca : Int)) ∧ W'.cell? ⟨w.heap.size, 2, none⟩ = some (.slice (some ⟨b, o, none⟩) ns.length k)) := fun W' h => ⟨below_celllt a0 (cell_block a0) h, below_celllt a1 (cell_block a1) h, below_celllt a2 (cell_block a2) h⟩
  go_upto_region 3 with (fail)
  go_region_held3 (fun W' => W'.cell? ⟨w.heap.size, 0, none⟩ = some (.int .i64 (ra : Int)) ∧ W'.cell? ⟨w.heap.size, 1, none⟩ = some (.int .i64 (ca : Int)) ∧ W'.cell? ⟨w.heap.size, 2, none⟩ = some (.slice (some ⟨b, o, none⟩) ns.length k)) (first | exact HK.out _ hcum | exact HK.out _ (Below.drew hcum) | go_keep)
    (first
      | (go_at_call 40; refine (own_any (ra : Int) (ca : Int) b o ns.length k ns _ (H1.out.below (Below.drew (Below.refl _ _))) (by omega) (by omega)).mono ?_; rintro e w2 ⟨r, rfl, hown, hb2⟩; obtain ⟨g, cap, rfl, hg1, hg2, hg3, hg4, hg5, hblk⟩ := own_blk hown (by omega) HLT.out; have HX1 := Lib.hid hblk; have hcum := below_of_drewG hb2; have HB2 := Lib.hid hcum; clear hb2 hown hblk)
      | (go_at_call 44; refine (empty_one ra _ r16).mono ?_; rintro e w3 ⟨g2, hh1, hh2, rfl, hblk2, hb3⟩; have HX2 := Lib.hid hblk2; have HX3 := Lib.hid (blk_below HX1.out hg2 hb3); have hs3 := hb3.size; have hcum := cum2 hcum hb3; clear hb3 hblk2)
      | (go_at_call 39; refine (solve_one ra ca g g2 ns.length cap ra ns (List.replicate ra 0) _ HX3.out HX2.out (by omega) hh2 (by omega) rfl HL.out (List.length_replicate) r1 r16 c1 c16 (by omega) (by omega) (Nat.le_refl _) (by omega)).mono ?_; rintro e w4 ⟨rfl, hk4⟩; have hcum := hcum.trans (hk4.below hcum.size (fun j hj e => by have hg1' : w1.heap.size ≤ g := hg1; omega))))
  have hfin := HBE.out.trans ((HB1.out.trans (hcum.mono HB1.out.size)).mono HBE.out.size)
  clear hcum HX1 HX2 HX3 HB2 a0 a1 a2 HK
  go_wp2_with fail
  refine bodyPost_ret (v := .tuple #[.int .i64 ((rankL ra ca ns : Nat) : Int), .int .i64 0]) (by simp [results, Try.results18, go_sem]) rfl ⟨rfl, hfin⟩

set_option maxRecDepth 100000 in
set_option maxHeartbeats 1000000 in
theorem rank_no (R C : Int) (A : Option Addr) (n k : Nat) (w : World) (hn : n ≤ 9223372036854775807) (hm : mayM R C n = false) :
    Calls Try.prog 18 #[matV R C (.slice A n k)] w fun e w' => e = .returned (.tuple #[.int .i64 0, .int .i64 1]) ∧ Below w.heap.size w w' := by
  have HMA := Lib.hid hm
  have hbe := (Below.refl w.heap.size w).alloc (Nat.le_refl _) (.cells #[.int .i64 R, .int .i64 C, .slice A n k] 30)
  have HBE := Lib.hid hbe
  clear hbe hm
  unfold matV
  go_enter Try.func18, Try.ntmps18
  go_wp2_with fail
  refine (mayM_any R C A n k _ hn).mono ?_
  rintro e w1 ⟨rfl, hb1⟩
  rw [HMA.out]
  have hfin := HBE.out.trans (hb1.mono HBE.out.size)
  clear hb1
  go_wp2_with fail
  refine bodyPost_ret (v := .tuple #[.int .i64 0, .int .i64 1]) (by simp [results, Try.results18, go_sem]) rfl ⟨rfl, hfin⟩

/-- The page's inverse and rank come of one sweep. -/
def invO (n : Nat) (ns : List Nat) : List Nat := (elim n n n ns (oneL n n) n).2.1
theorem invO_length (n : Nat) (ns : List Nat) : (invO n ns).length = n * n := by rw [invO, (elim_length _ _ _ _ _ _).2, oneL_length]

set_option maxRecDepth 100000 in
set_option maxHeartbeats 1000000 in
theorem refRank_any (ra ca : Nat) (vm : Value) (ns : List Nat) (w : World) (h : BytesV w vm ns) (hl : ns.length = ra * ca) (r1 : 1 ≤ ra) (r16 : ra ≤ 16) (c1 : 1 ≤ ca) (c16 : ca ≤ 16) :
    Calls Try.prog 19 #[matV (ra : Int) (ca : Int) vm] w fun e w' => e = .returned (.int .i64 ((rankL ra ca ns : Nat) : Int)) ∧ Below w.heap.size w w' := by
  have hbe := (Below.refl w.heap.size w).alloc (Nat.le_refl _) (.cells #[.int .i64 (ra : Int), .int .i64 (ca : Int), vm] 30)
  have tA := Three.new w (.int .i64 (ra : Int)) (.int .i64 (ca : Int)) vm 30
  obtain ⟨A, k, rfl⟩ := h.shape
  have TA := Lib.hid tA
  have HBE := Lib.hid hbe
  have H := Lib.hid (h.below hbe)
  have HL := Lib.hid hl
  clear tA hbe h hl
  unfold matV
  go_enter Try.func19, Try.ntmps19
  go_upto_region 1 with (fail)
  generalize w.alloc (.cells #[.int .i64 (ra : Int), .int .i64 (ca : Int), .slice A ns.length k] 30) = W0 at *
  obtain ⟨a0, a1, a2, _, _, _⟩ := TA.out
  have n0 := World.new_ne W0 _ a0
  have HK : Hid (∀ W', Below W0.heap.size W0 W' → W'.cell? ⟨w.heap.size, 0, none⟩ = some (.int .i64 (ra : Int)) ∧ W'.cell? ⟨w.heap.size, 1, none⟩ = some (.int .i64 (ca : Int)) ∧ W'.cell? ⟨w.heap.size, 2, none⟩ = some (.slice A ns.length k)) := fun W' h => ⟨below_celllt a0 (cell_block a0) h, below_celllt a1 (cell_block a1) h, below_celllt a2 (cell_block a2) h⟩
  go_region_held3 (fun W' => W'.cell? ⟨w.heap.size, 0, none⟩ = some (.int .i64 (ra : Int)) ∧ W'.cell? ⟨w.heap.size, 1, none⟩ = some (.int .i64 (ca : Int)) ∧ W'.cell? ⟨w.heap.size, 2, none⟩ = some (.slice A ns.length k)) (first | exact HK.out _ hcum | exact HK.out _ (Below.drew hcum) | go_keep)
    (first
      | (go_at_call 30; refine (refOne_any ra r1 r16 _).mono ?_; rintro e w2 ⟨v2, rfl, hmm, hb2⟩; obtain ⟨v2s, rfl, hv2⟩ := hmm.bytes; have HX2 := Lib.hid hv2; have hcum : Below W0.heap.size W0 w2 := (by first | exact below_of_drewG hb2 | exact cum2 ((Below.refl W0.heap.size W0).alloc (Nat.le_refl _) _) (below_of_drewG hb2)); (try (have hal := Lib.hid ((Three.new W0 (.int .i64 0) (.int .i64 0) (.slice none 0 0) 30).below (below_of_drewG hb2)))); clear hb2 hmm; obtain ⟨y0, y1, y2⟩ := HK.out _ hcum; have nx := World.new_ne _ _ y0)
      | (go_at_call 41; refine (swept_any ra ca ra _ v2s ns (oneL ra ra) _ (by first | exact H.out.below hcum | exact H.out.below (hcum.alloc hcum.size _)) (by first | exact HX2.out | exact HX2.out.below ((Below.refl _ _).alloc (Nat.le_refl _) _)) HL.out (oneL_length _ _) r1 r16 c1 c16 r1 r16).mono ?_; rintro e w3 ⟨g3, k3, hg31, hg32, rfl, hv3, hb3⟩; have hcum : Below W0.heap.size W0 w3 := (by first | exact cum2 hcum hb3 | exact cum2 (hcum.alloc hcum.size _) hb3); (first | (have hal := Lib.hid ((Three.new w2 (.int .i64 0) (.int .i64 0) (.slice none 0 0) 30).below hb3)) | (have hal := Lib.hid (hal.out.below hb3)) | skip); (try (obtain ⟨e0, e1, e2, e3, e4, e5⟩ := hal.out)); clear hv3; obtain ⟨y0, y1, y2⟩ := HK.out _ hcum; have nx := World.new_ne _ _ y0; unfold matV))
  all_goals
    have hfin := HBE.out.trans (hcum.mono HBE.out.size)
    have q1 := HBE.out.size
    have q3 := hcum.size
    have q2 : W0.heap.size ≤ w2.heap.size := by first | exact Below.size (by assumption : Below W0.heap.size W0 w2) | omega
    clear a0 a1 a2 y0 y1 y2
    go_wp2_with fail
    go_ret
    refine ⟨by rw [rankL_of]; rfl, ?_⟩
    repeat (first | exact hfin | refine Below.setCell ?_ (by first | exact q1 | (dsimp only; omega)) _ | refine Below.alloc ?_ (by first | omega | exact hfin.size) _)
end Go.Proofs.Ytibinkppbdeofaa

/- matrix.Invert, walked. -/

namespace Go.Proofs.Ytibinkppbdeofaa
open Go.ChangeShapes Go.WideShapes Go.ChangeAt Go.RowKit Go.Joins Go.Shelf
set_option linter.unusedVariables false
set_option linter.unusedSimpArgs false

/-- What an inversion comes to. -/
def invE (n : Nat) (ns : List Nat) : Int := if rankL n n ns < n then 3 else 0
def InvM (w w' : World) (n : Nat) (ns : List Nat) (v : Value) : Prop := (rankL n n ns < n ∧ v = matV 0 0 (.slice none 0 0)) ∨ (rankL n n ns = n ∧ MadeM w w' v n n (invO n ns))

set_option maxRecDepth 100000 in
set_option maxHeartbeats 4000000 in
theorem invert_yes (n b o k : Nat) (ns : List Nat) (w : World) (h : BytesV w (.slice (some ⟨b, o, none⟩) ns.length k) ns) (hl : ns.length = n * n) (r1 : 1 ≤ n) (r16 : n ≤ 16) :
    Calls Try.prog 11 #[matV (n : Int) (n : Int) (.slice (some ⟨b, o, none⟩) ns.length k)] w fun e w' => ∃ v, e = .returned (.tuple #[v, .int .i64 (invE n ns)]) ∧ InvM w w' n ns v ∧ Below w.heap.size w w' := by
  have HMA := Lib.hid (mayM_of r1 r16 r1 r16 hl)
  have hns : 1 ≤ ns.length := by rw [hl]; exact Nat.mul_le_mul r1 r1
  have hns2 : ns.length ≤ 256 := by rw [hl]; exact Nat.mul_le_mul r16 r16
  have hmx : maxLen ≤ 9223372036854775807 := by unfold maxLen; omega
  obtain ⟨oA, hoA⟩ : ∃ x, x = (Obj.cells #[.int .i64 (n : Int), .int .i64 (n : Int), .slice (some ⟨b, o, none⟩) ns.length k] 30) := ⟨_, rfl⟩
  obtain ⟨oR, hoR⟩ : ∃ x, x = (Obj.cells #[.int .i64 0, .int .i64 0, .slice none 0 0] 30) := ⟨_, rfl⟩
  have tA := Three.new w (.int .i64 (n : Int)) (.int .i64 (n : Int)) (.slice (some ⟨b, o, none⟩) ns.length k) 30
  rw [← hoA] at tA
  have tR := Three.new (w.alloc oA) (.int .i64 0) (.int .i64 0) (.slice none 0 0) 30
  rw [World.size_alloc, ← hoR] at tR
  have hbe : Below w.heap.size w ((w.alloc oA).alloc oR) := ((Below.refl w.heap.size w).alloc (Nat.le_refl _) oA).alloc (by simp) oR
  have hsz : ((w.alloc oA).alloc oR).heap.size = w.heap.size + 1 + 1 := by simp
  have TA := Lib.hid (tA.alloc oR)
  have TR := Lib.hid tR
  have HBE := Lib.hid hbe
  have HSZ := Lib.hid hsz
  have H := Lib.hid (h.below hbe)
  have HL := Lib.hid hl
  clear tA tR hbe h hl hsz
  unfold matV
  go_enter Try.func11, Try.ntmps11
  go_wp2_with fail
  rw [← hoA, ← hoR]
  generalize (w.alloc oA).alloc oR = W0 at *
  clear hoA hoR
  refine (mayM_any (n : Int) (n : Int) (some ⟨b, o, none⟩) ns.length k _ (by omega)).mono ?_
  rintro e w1 ⟨rfl, hb1⟩
  rw [HMA.out]
  obtain ⟨a0, a1, a2, _, _, _⟩ := TA.out.below hb1
  have HB1 := Lib.hid (HBE.out.trans (hb1.mono HBE.out.size))
  have HB01 := Lib.hid hb1
  have hs1 := hb1.size
  have hz := HSZ.out
  clear hb1
  have hne : ((n : Int) == (n : Int)) = true := by simp
  go_wp2_with fail
  refine (one_yes n r1 r16 _).mono ?_
  rintro e w2 ⟨v2, rfl, ⟨X, hX1, hX2, rfl, hblk, _⟩, hb2⟩
  have HB02 := Lib.hid (cum2 HB01.out hb2)
  have HBLK := Lib.hid hblk
  obtain ⟨oX, hoX⟩ : ∃ x, x = (Obj.cells #[.int .i64 (n : Int), .int .i64 (n : Int), .slice (some ⟨X, 0, none⟩) (n * n) (n * n)] 30) := ⟨_, rfl⟩
  have tX := Three.new w2 (.int .i64 (n : Int)) (.int .i64 (n : Int)) (.slice (some ⟨X, 0, none⟩) (n * n) (n * n)) 30
  rw [← hoX] at tX
  have hb3 := (Below.refl w2.heap.size w2).alloc (Nat.le_refl _) oX
  have TX := Lib.hid tX
  have TA3 := Lib.hid ((TA.out.below HB02.out).below hb3)
  have TR3 := Lib.hid ((TR.out.below HB02.out).below hb3)
  have H3 := Lib.hid ((H.out.below HB02.out).below hb3)
  have HX3 := Lib.hid (blk_below hblk hX2 hb3)
  have HB03 := Lib.hid (cum2 HB02.out hb3)
  have hs2 := hb2.size
  have hs3 : w2.heap.size < (w2.alloc oX).heap.size := by simp
  clear hb2 hblk tX hb3 a0 a1 a2 HBLK
  unfold matV
  go_wp2_with fail
  rw [← hoX]
  clear hoX
  generalize w2.alloc oX = W3 at *
  generalize w2.heap.size = bx at *
  obtain ⟨a0, a1, a2, _, _, _⟩ := TA3.out
  obtain ⟨x0, x1, x2, _, _, _⟩ := TX.out
  have HLT : Hid (∀ y ∈ ns, y < 256) := H3.out.2
  have HK : Hid (∀ W', Kept (fun j => W3.heap.size ≤ j ∨ j = X) W3 W' → W'.cell? ⟨w.heap.size, 0, none⟩ = some (.int .i64 (n : Int)) ∧ W'.cell? ⟨w.heap.size, 1, none⟩ = some (.int .i64 (n : Int)) ∧ W'.cell? ⟨w.heap.size, 2, none⟩ = some (.slice (some ⟨b, o, none⟩) ns.length k) ∧ W'.cell? ⟨bx, 0, none⟩ = some (.int .i64 (n : Int)) ∧ W'.cell? ⟨bx, 1, none⟩ = some (.int .i64 (n : Int)) ∧ W'.cell? ⟨bx, 2, none⟩ = some (.slice (some ⟨X, 0, none⟩) (n * n) (n * n))) := fun W' h => by
    obtain ⟨g0, g1, g2, _, _, _⟩ := TA3.out.below' h (by omega)
    obtain ⟨h0, h1, h2, _, _, _⟩ := TX.out.below' h (by omega)
    exact ⟨g0, g1, g2, h0, h1, h2⟩
  have ho := oneL_length n n
  go_region_held3 (fun W' => W'.cell? ⟨w.heap.size, 0, none⟩ = some (.int .i64 (n : Int)) ∧ W'.cell? ⟨w.heap.size, 1, none⟩ = some (.int .i64 (n : Int)) ∧ W'.cell? ⟨w.heap.size, 2, none⟩ = some (.slice (some ⟨b, o, none⟩) ns.length k) ∧ W'.cell? ⟨bx, 0, none⟩ = some (.int .i64 (n : Int)) ∧ W'.cell? ⟨bx, 1, none⟩ = some (.int .i64 (n : Int)) ∧ W'.cell? ⟨bx, 2, none⟩ = some (.slice (some ⟨X, 0, none⟩) (n * n) (n * n))) (first | exact HK.out _ hkk | go_keep)
    (first
      | (go_at_call 40; refine (own_any (n : Int) (n : Int) b o ns.length k ns _ (H3.out.below (Below.drew (Below.refl _ _))) (by omega) (by omega)).mono ?_; rintro e w4 ⟨r, rfl, hown, hb4⟩; obtain ⟨g, cap, rfl, hg1, hg2, hg3, hg4, hg5, hblk⟩ := own_blk hown (by omega) HLT.out; have HG := Lib.hid hblk; have hcum := below_of_drewG hb4; have hkk : Kept (fun j => W3.heap.size ≤ j ∨ j = X) W3 w4 := Kept.of_below hcum; have HX4 := Lib.hid (blk_below HX3.out (by omega) hcum); have hs4 := hcum.size; have HC4 := Lib.hid hcum; clear hb4 hown hblk hcum)
      | (go_at_call 39; refine (solve_at n n n g X ns.length (n * n) cap (n * n) ns (oneL n n) _ HG.out HX4.out hg2 (by omega) (by have hg1' : W3.heap.size ≤ g := hg1; omega) rfl ho.symm HL.out ho r1 r16 r1 r16 r1 r16 (by omega) (by omega) (Nat.le_refl _) (by have := Nat.mul_le_mul r16 r16; omega)).mono ?_; rintro e w5 ⟨rfl, hbx, hk5⟩; have hkk := hkk.trans (kept_low (q := fun j => W3.heap.size ≤ j ∨ j = X) hk5 (fun j _ e => by have hg1' : W3.heap.size ≤ g := hg1; omega)); have HIV := Lib.hid (show BytesBlk w5 X (invO n ns) from hbx); clear hbx hk5))
  have HR5 := Lib.hid (TR3.out.below' hkk (by omega))
  have HX5 := Lib.hid (TX.out.below' hkk (by omega))
  have hs5 := hkk.size
  have HKF := Lib.hid ((Kept.of_below (p := fun j => W3.heap.size ≤ j ∨ j = X) (HBE.out.trans (HB03.out.mono HBE.out.size))).trans hkk)
  obtain ⟨r0, r1', r2, _, _, _⟩ := HR5.out
  obtain ⟨x0, x1, x2, _, _, _⟩ := HX5.out
  clear a0 a1 a2 HK
  have hlo := invO_length n ns
  have HLO := Lib.hid hlo
  have HFin : Hid (Below w.heap.size w w5) := ⟨HKF.out.os, HKF.out.tape, HKF.out.output, HKF.out.size, fun j hj => HKF.out.block j hj (by omega)⟩
  obtain ⟨rr, hrr⟩ : ∃ rr, rr = rankL n n ns := ⟨_, rfl⟩
  rw [← hrr]
  have hrl : rr ≤ n := by rw [hrr]; exact (rankL_le n n ns).1
  have HRR := Lib.hid hrr
  clear hrr ho hlo hkk
  by_cases hlt : rr < n
  · have hd : decide ((rr : Int) < (n : Int)) = true := by simp; omega
    have HE : Hid (invE n ns = 3) := by rw [Hid, invE, ← HRR.out, if_pos hlt]
    go_wp2_with fail
    obtain ⟨t0, t1, t2, _, _, _⟩ := three_put HR5.out (.int .i64 0) (.int .i64 0) (.slice none 0 0)
    refine bodyPost_ret (v := .tuple #[matV 0 0 (.slice none 0 0), .int .i64 3]) (by simp [results, Try.results11, go_sem, matV, t0, t1, t2]) rfl ⟨_, by rw [HE.out], Or.inl ⟨by rw [← HRR.out]; exact hlt, rfl⟩, ?_⟩
    exact ((HFin.out.setCell (p := ⟨w.heap.size + 1, 0, none⟩) (by simp) _).setCell (p := ⟨w.heap.size + 1, 1, none⟩) (by simp) _).setCell (p := ⟨w.heap.size + 1, 2, none⟩) (by simp) _
  · have hd : decide ((rr : Int) < (n : Int)) = false := by simp; omega
    have HE : Hid (invE n ns = 0) := by rw [Hid, invE, ← HRR.out, if_neg hlt]
    go_wp2_with fail
    obtain ⟨t0, t1, t2, _, _, _⟩ := three_put HR5.out (.int .i64 (n : Int)) (.int .i64 (n : Int)) (.slice (some ⟨X, 0, none⟩) (n * n) (n * n))
    refine bodyPost_ret (v := .tuple #[matV (n : Int) (n : Int) (.slice (some ⟨X, 0, none⟩) (n * n) (n * n)), .int .i64 0]) (by simp [results, Try.results11, go_sem, matV, t0, t1, t2]) rfl ⟨_, by rw [HE.out], Or.inr ⟨by rw [← HRR.out]; omega, X, by omega, by simp only [World.size_setCell]; omega, rfl, ?_, HLO.out⟩, ?_⟩
    · exact blk_cell (blk_cell (blk_cell HIV.out (by dsimp only; omega)) (by dsimp only; omega)) (by dsimp only; omega)
    · exact ((HFin.out.setCell (p := ⟨w.heap.size + 1, 0, none⟩) (by simp) _).setCell (p := ⟨w.heap.size + 1, 1, none⟩) (by simp) _).setCell (p := ⟨w.heap.size + 1, 2, none⟩) (by simp) _

set_option maxRecDepth 100000 in
set_option maxHeartbeats 1000000 in
/-- Where no inverse is asked of what may have one. -/
theorem invert_no (R C : Int) (A : Option Addr) (n k : Nat) (w : World) (hn : n ≤ 9223372036854775807) (hm : mayM R C n = false ∨ R ≠ C) :
    Calls Try.prog 11 #[matV R C (.slice A n k)] w fun e w' => e = .returned (.tuple #[matV 0 0 (.slice none 0 0), .int .i64 1]) ∧ Below w.heap.size w w' := by
  obtain ⟨oA, hoA⟩ : ∃ x, x = (Obj.cells #[.int .i64 R, .int .i64 C, .slice A n k] 30) := ⟨_, rfl⟩
  obtain ⟨oR, hoR⟩ : ∃ x, x = (Obj.cells #[.int .i64 0, .int .i64 0, .slice none 0 0] 30) := ⟨_, rfl⟩
  have tA := Three.new w (.int .i64 R) (.int .i64 C) (.slice A n k) 30
  rw [← hoA] at tA
  have tR := Three.new (w.alloc oA) (.int .i64 0) (.int .i64 0) (.slice none 0 0) 30
  rw [World.size_alloc, ← hoR] at tR
  have hbe : Below w.heap.size w ((w.alloc oA).alloc oR) := ((Below.refl w.heap.size w).alloc (Nat.le_refl _) oA).alloc (by simp) oR
  have TA := Lib.hid (tA.alloc oR)
  have TR := Lib.hid tR
  have HBE := Lib.hid hbe
  clear tA tR hbe
  have HM := Lib.hid hm
  unfold matV
  go_enter Try.func11, Try.ntmps11
  go_wp2_with fail
  rw [← hoA, ← hoR]
  generalize (w.alloc oA).alloc oR = W0 at *
  clear hoA hoR hm
  refine (mayM_any R C A n k _ hn).mono ?_
  rintro e w1 ⟨rfl, hb1⟩
  obtain ⟨a0, a1, a2, _, _, _⟩ := TA.out.below hb1
  have HR1 := Lib.hid (TR.out.below hb1)
  have HFin := Lib.hid (HBE.out.trans (hb1.mono HBE.out.size))
  obtain ⟨r0, r1', r2, _, _, _⟩ := HR1.out
  clear hb1
  obtain ⟨mb, hmb⟩ : ∃ mb, mb = mayM R C n := ⟨_, rfl⟩
  rw [← hmb]
  cases mb
  · clear hmb
    go_wp2_with fail
    obtain ⟨t0, t1, t2, _, _, _⟩ := three_put HR1.out (.int .i64 0) (.int .i64 0) (.slice none 0 0)
    refine bodyPost_ret (v := .tuple #[matV 0 0 (.slice none 0 0), .int .i64 1]) (by simp [results, Try.results11, go_sem, matV, t0, t1, t2]) rfl ⟨rfl, ?_⟩
    exact ((HFin.out.setCell (p := ⟨w.heap.size + 1, 0, none⟩) (by simp) _).setCell (p := ⟨w.heap.size + 1, 1, none⟩) (by simp) _).setCell (p := ⟨w.heap.size + 1, 2, none⟩) (by simp) _
  · have hrc : (R == C) = false := beq_eq_false_iff_ne.2 (by rcases HM.out with h | h; · rw [h] at hmb; cases hmb
                                                             · exact h)
    clear hmb
    go_wp2_with fail
    obtain ⟨t0, t1, t2, _, _, _⟩ := three_put HR1.out (.int .i64 0) (.int .i64 0) (.slice none 0 0)
    refine bodyPost_ret (v := .tuple #[matV 0 0 (.slice none 0 0), .int .i64 1]) (by simp [results, Try.results11, go_sem, matV, t0, t1, t2]) rfl ⟨rfl, ?_⟩
    exact ((HFin.out.setCell (p := ⟨w.heap.size + 1, 0, none⟩) (by simp) _).setCell (p := ⟨w.heap.size + 1, 1, none⟩) (by simp) _).setCell (p := ⟨w.heap.size + 1, 2, none⟩) (by simp) _
end Go.Proofs.Ytibinkppbdeofaa
