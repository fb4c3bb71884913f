/- matrix.Invert, walked. -/
import Derived.Test.YtdagnmhioellhaaPkA16
namespace Go.Proofs.Ytdagnmhioellhaa
open Go.ChangeShapes Go.WideShapes Go.ChangeAt Go.RowKit Go.Joins Go.Shelf
set_option linter.unusedVariables false
set_option linter.unusedSimpArgs false

/-- What an inversion comes to. -/
def invE (n : Nat) (ns : List Nat) : Int := if rankL n n ns < n then 3 else 0
def InvM (w w' : World) (n : Nat) (ns : List Nat) (v : Value) : Prop := (rankL n n ns < n ∧ v = matV 0 0 (.slice none 0 0)) ∨ (rankL n n ns = n ∧ MadeM w w' v n n (invO n ns))

set_option maxRecDepth 100000 in
set_option maxHeartbeats 4000000 in
theorem invert_yes (n b o k : Nat) (ns : List Nat) (w : World) (h : BytesV w (.slice (some ⟨b, o, none⟩) ns.length k) ns) (hl : ns.length = n * n) (r1 : 1 ≤ n) (r16 : n ≤ 16) :
    Calls Try.prog 47 #[matV (n : Int) (n : Int) (.slice (some ⟨b, o, none⟩) ns.length k)] w fun e w' => ∃ v, e = .returned (.tuple #[v, .int .i64 (invE n ns)]) ∧ InvM w w' n ns v ∧ Below w.heap.size w w' := by
  have HMA := Lib.hid (mayM_of r1 r16 r1 r16 hl)
  have hns : 1 ≤ ns.length := by rw [hl]; exact Nat.mul_le_mul r1 r1
  have hns2 : ns.length ≤ 256 := by rw [hl]; exact Nat.mul_le_mul r16 r16
  have hmx : maxLen ≤ 9223372036854775807 := by unfold maxLen; omega
  obtain ⟨oA, hoA⟩ : ∃ x, x = (Obj.cells #[.int .i64 (n : Int), .int .i64 (n : Int), .slice (some ⟨b, o, none⟩) ns.length k] 33) := ⟨_, rfl⟩
  obtain ⟨oR, hoR⟩ : ∃ x, x = (Obj.cells #[.int .i64 0, .int .i64 0, .slice none 0 0] 33) := ⟨_, rfl⟩
  have tA := Three.new w (.int .i64 (n : Int)) (.int .i64 (n : Int)) (.slice (some ⟨b, o, none⟩) ns.length k) 33
  rw [← hoA] at tA
  have tR := Three.new (w.alloc oA) (.int .i64 0) (.int .i64 0) (.slice none 0 0) 33
  rw [World.size_alloc, ← hoR] at tR
  have hbe : Below w.heap.size w ((w.alloc oA).alloc oR) := ((Below.refl w.heap.size w).alloc (Nat.le_refl _) oA).alloc (by simp) oR
  have hsz : ((w.alloc oA).alloc oR).heap.size = w.heap.size + 1 + 1 := by simp
  have TA := Lib.hid (tA.alloc oR)
  have TR := Lib.hid tR
  have HBE := Lib.hid hbe
  have HSZ := Lib.hid hsz
  have H := Lib.hid (h.below hbe)
  have HL := Lib.hid hl
  clear tA tR hbe h hl hsz
  unfold matV
  go_enter Try.func47, Try.ntmps47
  go_wp2_with fail
  rw [← hoA, ← hoR]
  generalize (w.alloc oA).alloc oR = W0 at *
  clear hoA hoR
  refine (mayM_any (n : Int) (n : Int) (some ⟨b, o, none⟩) ns.length k _ (by omega)).mono ?_
  rintro e w1 ⟨rfl, hb1⟩
  rw [HMA.out]
  obtain ⟨a0, a1, a2, _, _, _⟩ := TA.out.below hb1
  have HB1 := Lib.hid (HBE.out.trans (hb1.mono HBE.out.size))
  have HB01 := Lib.hid hb1
  have hs1 := hb1.size
  have hz := HSZ.out
  clear hb1
  have hne : ((n : Int) == (n : Int)) = true := by simp
  go_wp2_with fail
  refine (one_yes n r1 r16 _).mono ?_
  rintro e w2 ⟨v2, rfl, ⟨X, hX1, hX2, rfl, hblk, _⟩, hb2⟩
  have HB02 := Lib.hid (cum2 HB01.out hb2)
  have HBLK := Lib.hid hblk
  obtain ⟨oX, hoX⟩ : ∃ x, x = (Obj.cells #[.int .i64 (n : Int), .int .i64 (n : Int), .slice (some ⟨X, 0, none⟩) (n * n) (n * n)] 33) := ⟨_, rfl⟩
  have tX := Three.new w2 (.int .i64 (n : Int)) (.int .i64 (n : Int)) (.slice (some ⟨X, 0, none⟩) (n * n) (n * n)) 33
  rw [← hoX] at tX
  have hb3 := (Below.refl w2.heap.size w2).alloc (Nat.le_refl _) oX
  have TX := Lib.hid tX
  have TA3 := Lib.hid ((TA.out.below HB02.out).below hb3)
  have TR3 := Lib.hid ((TR.out.below HB02.out).below hb3)
  have H3 := Lib.hid ((H.out.below HB02.out).below hb3)
  have HX3 := Lib.hid (blk_below hblk hX2 hb3)
  have HB03 := Lib.hid (cum2 HB02.out hb3)
  have hs2 := hb2.size
  have hs3 : w2.heap.size < (w2.alloc oX).heap.size := by simp
  clear hb2 hblk tX hb3 a0 a1 a2 HBLK
  unfold matV
  go_wp2_with fail
  rw [← hoX]
  clear hoX
  generalize w2.alloc oX = W3 at *
  generalize w2.heap.size = bx at *
  obtain ⟨a0, a1, a2, _, _, _⟩ := TA3.out
  obtain ⟨x0, x1, x2, _, _, _⟩ := TX.out
  have HLT : Hid (∀ y ∈ ns, y < 256) := H3.out.2
  have HK : Hid (∀ W', Kept (fun j => W3.heap.size ≤ j ∨ j = X) W3 W' → W'.cell? ⟨w.heap.size, 0, none⟩ = some (.int .i64 (n : Int)) ∧ W'.cell? ⟨w.heap.size, 1, none⟩ = some (.int .i64 (n : Int)) ∧ W'.cell? ⟨w.heap.size, 2, none⟩ = some (.slice (some ⟨b, o, none⟩) ns.length k) ∧ W'.cell? ⟨bx, 0, none⟩ = some (.int .i64 (n : Int)) ∧ W'.cell? ⟨bx, 1, none⟩ = some (.int .i64 (n : Int)) ∧ W'.cell? ⟨bx, 2, none⟩ = some (.slice (some ⟨X, 0, none⟩) (n * n) (n * n))) := fun W' h => by
    obtain ⟨g0, g1, g2, _, _, _⟩ := TA3.out.below' h (by omega)
    obtain ⟨h0, h1, h2, _, _, _⟩ := TX.out.below' h (by omega)
    exact ⟨g0, g1, g2, h0, h1, h2⟩
  have ho := oneL_length n n
  go_region_held3 (fun W' => W'.cell? ⟨w.heap.size, 0, none⟩ = some (.int .i64 (n : Int)) ∧ W'.cell? ⟨w.heap.size, 1, none⟩ = some (.int .i64 (n : Int)) ∧ W'.cell? ⟨w.heap.size, 2, none⟩ = some (.slice (some ⟨b, o, none⟩) ns.length k) ∧ W'.cell? ⟨bx, 0, none⟩ = some (.int .i64 (n : Int)) ∧ W'.cell? ⟨bx, 1, none⟩ = some (.int .i64 (n : Int)) ∧ W'.cell? ⟨bx, 2, none⟩ = some (.slice (some ⟨X, 0, none⟩) (n * n) (n * n))) (first | exact HK.out _ hkk | go_keep)
    (first
      | (go_at_call 69; refine (own_any (n : Int) (n : Int) b o ns.length k ns _ (H3.out.below (Below.drew (Below.refl _ _))) (by omega) (by omega)).mono ?_; rintro e w4 ⟨r, rfl, hown, hb4⟩; obtain ⟨g, cap, rfl, hg1, hg2, hg3, hg4, hg5, hblk⟩ := own_blk hown (by omega) HLT.out; have HG := Lib.hid hblk; have hcum := below_of_drewG hb4; have hkk : Kept (fun j => W3.heap.size ≤ j ∨ j = X) W3 w4 := Kept.of_below hcum; have HX4 := Lib.hid (blk_below HX3.out (by omega) hcum); have hs4 := hcum.size; have HC4 := Lib.hid hcum; clear hb4 hown hblk hcum)
      | (go_at_call 68; refine (solve_at n n n g X ns.length (n * n) cap (n * n) ns (oneL n n) _ HG.out HX4.out hg2 (by omega) (by have hg1' : W3.heap.size ≤ g := hg1; omega) rfl ho.symm HL.out ho r1 r16 r1 r16 r1 r16 (by omega) (by omega) (Nat.le_refl _) (by have := Nat.mul_le_mul r16 r16; omega)).mono ?_; rintro e w5 ⟨rfl, hbx, hk5⟩; have hkk := hkk.trans (kept_low (q := fun j => W3.heap.size ≤ j ∨ j = X) hk5 (fun j _ e => by have hg1' : W3.heap.size ≤ g := hg1; omega)); have HIV := Lib.hid (show BytesBlk w5 X (invO n ns) from hbx); clear hbx hk5))
  have HR5 := Lib.hid (TR3.out.below' hkk (by omega))
  have HX5 := Lib.hid (TX.out.below' hkk (by omega))
  have hs5 := hkk.size
  have HKF := Lib.hid ((Kept.of_below (p := fun j => W3.heap.size ≤ j ∨ j = X) (HBE.out.trans (HB03.out.mono HBE.out.size))).trans hkk)
  obtain ⟨r0, r1', r2, _, _, _⟩ := HR5.out
  obtain ⟨x0, x1, x2, _, _, _⟩ := HX5.out
  clear a0 a1 a2 HK
  have hlo := invO_length n ns
  have HLO := Lib.hid hlo
  have HFin : Hid (Below w.heap.size w w5) := ⟨HKF.out.os, HKF.out.tape, HKF.out.output, HKF.out.size, fun j hj => HKF.out.block j hj (by omega)⟩
  obtain ⟨rr, hrr⟩ : ∃ rr, rr = rankL n n ns := ⟨_, rfl⟩
  rw [← hrr]
  have hrl : rr ≤ n := by rw [hrr]; exact (rankL_le n n ns).1
  have HRR := Lib.hid hrr
  clear hrr ho hlo hkk
  by_cases hlt : rr < n
  · have hd : decide ((rr : Int) < (n : Int)) = true := by simp; omega
    have HE : Hid (invE n ns = 3) := by rw [Hid, invE, ← HRR.out, if_pos hlt]
    go_wp2_with fail
    obtain ⟨t0, t1, t2, _, _, _⟩ := three_put HR5.out (.int .i64 0) (.int .i64 0) (.slice none 0 0)
    refine bodyPost_ret (v := .tuple #[matV 0 0 (.slice none 0 0), .int .i64 3]) (by simp [results, Try.results47, go_sem, matV, t0, t1, t2]) rfl ⟨_, by rw [HE.out], Or.inl ⟨by rw [← HRR.out]; exact hlt, rfl⟩, ?_⟩
    exact ((HFin.out.setCell (p := ⟨w.heap.size + 1, 0, none⟩) (by simp) _).setCell (p := ⟨w.heap.size + 1, 1, none⟩) (by simp) _).setCell (p := ⟨w.heap.size + 1, 2, none⟩) (by simp) _
  · have hd : decide ((rr : Int) < (n : Int)) = false := by simp; omega
    have HE : Hid (invE n ns = 0) := by rw [Hid, invE, ← HRR.out, if_neg hlt]
    go_wp2_with fail
    obtain ⟨t0, t1, t2, _, _, _⟩ := three_put HR5.out (.int .i64 (n : Int)) (.int .i64 (n : Int)) (.slice (some ⟨X, 0, none⟩) (n * n) (n * n))
    refine bodyPost_ret (v := .tuple #[matV (n : Int) (n : Int) (.slice (some ⟨X, 0, none⟩) (n * n) (n * n)), .int .i64 0]) (by simp [results, Try.results47, go_sem, matV, t0, t1, t2]) rfl ⟨_, by rw [HE.out], Or.inr ⟨by rw [← HRR.out]; omega, X, by omega, by simp only [World.size_setCell]; omega, rfl, ?_, HLO.out⟩, ?_⟩
    · exact blk_cell (blk_cell (blk_cell HIV.out (by dsimp only; omega)) (by dsimp only; omega)) (by dsimp only; omega)
    · exact ((HFin.out.setCell (p := ⟨w.heap.size + 1, 0, none⟩) (by simp) _).setCell (p := ⟨w.heap.size + 1, 1, none⟩) (by simp) _).setCell (p := ⟨w.heap.size + 1, 2, none⟩) (by simp) _

set_option maxRecDepth 100000 in
set_option maxHeartbeats 1000000 in
/-- Where no inverse is asked of what may have one. -/
theorem invert_no (R C : Int) (A : Option Addr) (n k : Nat) (w : World) (hn : n ≤ 9223372036854775807) (hm : mayM R C n = false ∨ R ≠ C) :
    Calls Try.prog 47 #[matV R C (.slice A n k)] w fun e w' => e = .returned (.tuple #[matV 0 0 (.slice none 0 0), .int .i64 1]) ∧ Below w.heap.size w w' := by
  obtain ⟨oA, hoA⟩ : ∃ x, x = (Obj.cells #[.int .i64 R, .int .i64 C, .slice A n k] 33) := ⟨_, rfl⟩
  obtain ⟨oR, hoR⟩ : ∃ x, x = (Obj.cells #[.int .i64 0, .int .i64 0, .slice none 0 0] 33) := ⟨_, rfl⟩
  have tA := Three.new w (.int .i64 R) (.int .i64 C) (.slice A n k) 33
  rw [← hoA] at tA
  have tR := Three.new (w.alloc oA) (.int .i64 0) (.int .i64 0) (.slice none 0 0) 33
  rw [World.size_alloc, ← hoR] at tR
  have hbe : Below w.heap.size w ((w.alloc oA).alloc oR) := ((Below.refl w.heap.size w).alloc (Nat.le_refl _) oA).alloc (by simp) oR
  have TA := Lib.hid (tA.alloc oR)
  have TR := Lib.hid tR
  have HBE := Lib.hid hbe
  clear tA tR hbe
  have HM := Lib.hid hm
  unfold matV
  go_enter Try.func47, Try.ntmps47
  go_wp2_with fail
  rw [← hoA, ← hoR]
  generalize (w.alloc oA).alloc oR = W0 at *
  clear hoA hoR hm
  refine (mayM_any R C A n k _ hn).mono ?_
  rintro e w1 ⟨rfl, hb1⟩
  obtain ⟨a0, a1, a2, _, _, _⟩ := TA.out.below hb1
  have HR1 := Lib.hid (TR.out.below hb1)
  have HFin := Lib.hid (HBE.out.trans (hb1.mono HBE.out.size))
  obtain ⟨r0, r1', r2, _, _, _⟩ := HR1.out
  clear hb1
  obtain ⟨mb, hmb⟩ : ∃ mb, mb = mayM R C n := ⟨_, rfl⟩
  rw [← hmb]
  cases mb
  · clear hmb
    go_wp2_with fail
    obtain ⟨t0, t1, t2, _, _, _⟩ := three_put HR1.out (.int .i64 0) (.int .i64 0) (.slice none 0 0)
    refine bodyPost_ret (v := .tuple #[matV 0 0 (.slice none 0 0), .int .i64 1]) (by simp [results, Try.results47, go_sem, matV, t0, t1, t2]) rfl ⟨rfl, ?_⟩
    exact ((HFin.out.setCell (p := ⟨w.heap.size + 1, 0, none⟩) (by simp) _).setCell (p := ⟨w.heap.size + 1, 1, none⟩) (by simp) _).setCell (p := ⟨w.heap.size + 1, 2, none⟩) (by simp) _
  · have hrc : (R == C) = false := beq_eq_false_iff_ne.2 (by rcases HM.out with h | h; · rw [h] at hmb; cases hmb
                                                             · exact h)
    clear hmb
    go_wp2_with fail
    obtain ⟨t0, t1, t2, _, _, _⟩ := three_put HR1.out (.int .i64 0) (.int .i64 0) (.slice none 0 0)
    refine bodyPost_ret (v := .tuple #[matV 0 0 (.slice none 0 0), .int .i64 1]) (by simp [results, Try.results47, go_sem, matV, t0, t1, t2]) rfl ⟨rfl, ?_⟩
    exact ((HFin.out.setCell (p := ⟨w.heap.size + 1, 0, none⟩) (by simp) _).setCell (p := ⟨w.heap.size + 1, 1, none⟩) (by simp) _).setCell (p := ⟨w.heap.size + 1, 2, none⟩) (by simp) _
end Go.Proofs.Ytdagnmhioellhaa

/- Inverses, plainly: both ways; the inverse's inverse. -/

namespace Go.Proofs.Ytdagnmhioellhaa
set_option linter.unusedVariables false
set_option linter.unusedSimpArgs false

theorem undo_step {ra ca co c : Nat} {M0 : List Nat} {S : List Nat × List Nat × Nat} (lM : S.1.length = ra * ca) (lO : S.2.1.length = ra * co) (bM : ∀ x ∈ S.1, x < 256) (bO : ∀ x ∈ S.2.1, x < 256) (hr0 : S.2.2 ≤ ra) (h : Undo ra ca M0 S.1) (hc : c < ca) : Undo ra ca M0 (colStep ra ca co c S).1 := by
  obtain ⟨M, O, r⟩ := S
  dsimp only at lM lO bM bO hr0 h
  have hge := findP_ge M ca c (ra - r) r
  unfold colStep
  dsimp only
  by_cases hp : findP M ca c r (ra - r) < ra
  · rw [if_pos hp]
    have hne := findP_ne M ca c (ra - r) r (by omega)
    obtain ⟨p, hpe⟩ : ∃ p, p = findP M ca c r (ra - r) := ⟨_, rfl⟩
    rw [← hpe] at hp hge hne ⊢
    have hr : r < ra := by omega
    have lM1 : (swapL ca p r M).length = ra * ca := by rw [swapL_length]; exact lM
    have lO1 : (swapL co p r O).length = ra * co := by rw [swapL_length]; exact lO
    have bM1 := swapL_all (c := ca) (p := p) (q := r) bM
    have bO1 := swapL_all (c := co) (p := p) (q := r) bO
    obtain ⟨v, hv⟩ : ∃ v, v = Gf.inv ((swapL ca p r M).getD (r * ca + c) 0) := ⟨_, rfl⟩
    have hv256 : v < 256 := by rw [hv]; exact Gf.inv_lt _
    have eM1 : ∀ i j, j < ca → ent ca (swapL ca p r M) i j = ent ca M (swp p r i) j := fun i j hj => ent_swap lM hp hr hj
    have hpv : (swapL ca p r M).getD (r * ca + c) 0 = ent ca M p c := by have := eM1 r c hc; rw [swp_at] at this; exact this
    have hv1 : Gf.mul (ent ca M p c) v = 1 := by rw [hv, hpv]; exact Gf.inv_mul (ent_lt bM _ _) hne
    have ePM : pivM ca c p r M = scaleL ca r v (swapL ca p r M) := by rw [pivM, ← hv]
    have ePO : pivO ca co c p r M O = scaleL co r v (swapL co p r O) := by rw [pivO, ← hv]
    rw [ePM, ePO]
    have u1 := h.swap bM hp hr eM1
    have u2 := u1.scale (k := r) bM1 hv256 (ent_lt bM p c) hv1 (fun i j hj => ent_scale lM1 hr hj)
    have lM2 : (scaleL ca r v (swapL ca p r M)).length = ra * ca := by rw [scaleL_length]; exact lM1
    have lO2 : (scaleL co r v (swapL co p r O)).length = ra * co := by rw [scaleL_length]; exact lO1
    have bM2 := scaleL_all (c := ca) (k := r) (v := v) bM1
    have bO2 := scaleL_all (c := co) (k := r) (v := v) bO1
    exact u2.clear bM2 (clrAll_all bM2 bO2 ra).1 hr (ent_clr lM2 lO2 hc ra (Nat.le_refl ra)).1
  · rw [if_neg hp]; exact h
theorem undo_all {ra ca co : Nat} {B : Nat → Nat → Nat} {M O : List Nat} (hB : ∀ k, B8 (B k)) (lM : M.length = ra * ca) (lO : O.length = ra * co) (bM : ∀ x ∈ M, x < 256) (bO : ∀ x ∈ O, x < 256)
    (prod : ∀ i j, i < ra → j < ca → ent ca M i j = dot co (ent co O i) (fun k => B k j)) : ∀ c, c ≤ ca → Undo ra ca M (elim ra ca co M O c).1
  | 0, _ => Undo.refl bM
  | c + 1, hc => by
    have hs := steps_all hB lM lO bM bO prod c (by omega)
    rw [elim_succ]
    exact undo_step hs.lM hs.lO hs.bM hs.bO hs.rk (undo_all hB lM lO bM bO prod c (by omega)) (by omega)

theorem oneL_ent {n : Nat} : ∀ c, c ≤ n → ∀ i j, i < n → j < n → ent n (oneL n c) i j = if i = j ∧ i < c then 1 else 0
  | 0, _, i, j, hi, hj => by
    have : i * n + j < n * n := row_in hi hj
    rw [if_neg (by omega), ent, oneL_zero]; simp [List.getD, this]
  | c + 1, hc, i, j, hi, hj => by
    have ih := oneL_ent c (by omega) i j hi hj
    have hin : c * n + c < n * n := row_in (by omega) (by omega)
    rw [ent, oneL_succ]
    by_cases h : i = c
    · subst h
      by_cases hij : i = j
      · subst hij
        rw [getD_set_eq (by rw [oneL_length]; exact hin), if_pos ⟨rfl, by omega⟩]
      · rw [getD_set_ne (by omega), ← ent, ih, if_neg (by omega), if_neg (by omega)]
    · have hne : i * n + j ≠ c * n + c := by
        rcases row_apart (c := n) hj h with h2 | h2 <;> omega
      rw [getD_set_ne (by omega), ← ent, ih]
      by_cases h3 : i = j ∧ i < c
      · rw [if_pos h3, if_pos ⟨h3.1, by omega⟩]
      · rw [if_neg h3, if_neg (fun e => h3 ⟨e.1, by omega⟩)]
theorem oneL_one {n i j : Nat} (hi : i < n) (hj : j < n) : ent n (oneL n n) i j = if i = j then 1 else 0 := by
  rw [oneL_ent n (Nat.le_refl n) i j hi hj]
  by_cases h : i = j
  · rw [if_pos ⟨h, hi⟩, if_pos h]
  · rw [if_neg (fun e => h e.1), if_neg h]
theorem oneL_all (n : Nat) : ∀ c, ∀ x ∈ oneL n c, x < 256
  | 0 => by rw [oneL_zero]; intro x hx; rw [List.eq_of_mem_replicate hx]; decide
  | c + 1 => by
    rw [oneL_succ]
    intro x hx
    rcases List.mem_or_eq_of_mem_set hx with h | h
    · exact oneL_all n c x h
    · rw [h]; decide
theorem one_prod {n : Nat} {ns : List Nat} (hb : ∀ x ∈ ns, x < 256) : ∀ i j, i < n → j < n → ent n ns i j = dot n (ent n (oneL n n) i) (fun k => ent n ns k j) := fun i j hi hj => by
  rw [dot_congr (u' := fun k => if i = k then 1 else 0) (v' := fun k => ent n ns k j) (fun k hk => oneL_one hi hk) (fun _ _ => rfl), dot_one_left (fun k => ent_lt hb k j) hi]

/-- The inverse from the left. -/
theorem inv_left {n : Nat} {ns : List Nat} (hl : ns.length = n * n) (hb : ∀ x ∈ ns, x < 256) (hr : rankL n n ns = n) : ∀ i j, i < n → j < n → dot n (ent n (invO n ns) i) (fun k => ent n ns k j) = if i = j then 1 else 0 := by
  have hs := steps_all (B := fun k j => ent n ns k j) (fun k j => ent_lt hb k j) hl (oneL_length n n) hb (oneL_all n n) (one_prod hb) n (Nat.le_refl n)
  have hrk : (elim n n n ns (oneL n n) n).2.2 = n := by rw [rankL_of]; exact hr
  obtain ⟨lM, lO, bM, bO, rk, prod, ⟨pc, pc1, pc2, pc3⟩, zero⟩ := hs
  rw [hrk] at pc1 pc2 pc3
  have lo : ∀ t, t < n → t ≤ pc t := by
    intro t
    induction t with
    | zero => intro _; exact Nat.zero_le _
    | succ t ih => intro ht; have := pc2 t (t + 1) (by omega) ht; have := ih (by omega); omega
  have hi : ∀ d t, t + d + 1 = n → pc t ≤ t := by
    intro d
    induction d with
    | zero => intro t ht; have := pc1 t (by omega); omega
    | succ d ih => intro t ht; have := ih (t + 1) (by omega); have := pc2 t (t + 1) (by omega) (by omega); omega
  intro i j hi' hj
  have hpj : pc j = j := by have := lo j hj; have := hi (n - 1 - j) j (by omega); omega
  have := pc3 i j hi' hj
  rw [hpj] at this
  rw [← this, prod i j hi' hj]; rfl
theorem invO_all {n : Nat} {ns : List Nat} (hl : ns.length = n * n) (hb : ∀ x ∈ ns, x < 256) : ∀ x ∈ invO n ns, x < 256 :=
  (steps_all (B := fun k j => ent n ns k j) (fun k j => ent_lt hb k j) hl (oneL_length n n) hb (oneL_all n n) (one_prod hb) n (Nat.le_refl n)).bO

/-- Who undoes from the left undoes from the right. -/
theorem right_of_left {n : Nat} {x m : Nat → Nat → Nat} (hx : ∀ i, B8 (x i)) (hm : ∀ i, B8 (m i)) (h : ∀ i j, i < n → j < n → dot n (x i) (fun k => m k j) = if i = j then 1 else 0) : ∀ i j, i < n → j < n → dot n (m i) (fun k => x k j) = if i = j then 1 else 0 := by
  have hxc : ∀ j, B8 (fun k => x k j) := fun j k => hx k j
  have hmc : ∀ j, B8 (fun k => m k j) := fun j k => hm k j
  have hd8 : ∀ i j : Nat, (if i = j then 1 else 0) < 256 := fun i j => by split <;> omega
  obtain ⟨D, hD⟩ : ∃ D : Nat → Nat → Nat, D = fun i j => dot n (m i) (fun k => x k j) ^^^ (if i = j then 1 else 0) := ⟨_, rfl⟩
  have hD8 : ∀ i, B8 (D i) := fun i j => by rw [hD]; exact Gf.xor_lt (dot_lt (hm i) n) (hd8 i j)
  have hDc : ∀ j, B8 (fun k => D k j) := fun j k => hD8 k j
  have XD : ∀ i j, i < n → j < n → dot n (x i) (fun k => D k j) = 0 := fun i j hi hj => by
    have e : dot n (x i) (fun k => D k j) = dot n (x i) (fun k => dot n (m k) (fun t => x t j) ^^^ (if k = j then 1 else 0)) := by rw [hD]
    rw [e, dot_add_right (hx i) (fun k => dot_lt (hm k) n) (fun k => hd8 k j), ← dot_dot (hx i) hm (hxc j) n n, dot_one_right (hx i) hj,
      dot_congr (u' := fun t => if i = t then 1 else 0) (v' := fun k => x k j) (fun t ht => h i t hi ht) (fun _ _ => rfl), dot_one_left (hxc j) hi, Nat.xor_self]
  have DM : ∀ i j, i < n → j < n → dot n (D i) (fun k => m k j) = 0 := fun i j hi hj => by
    have e : dot n (D i) (fun k => m k j) = dot n (fun t => dot n (m i) (fun k => x k t) ^^^ (if i = t then 1 else 0)) (fun k => m k j) := by rw [hD]
    rw [e, dot_add_left (fun t => dot_lt (hm i) n) (fun t => hd8 i t), dot_dot (hm i) hx (hmc j) n n, dot_one_left (hmc j) hi,
      dot_congr (u' := m i) (v' := fun k => if k = j then 1 else 0) (fun _ _ => rfl) (fun k hk => h k j hk hj), dot_one_right (hm i) hj, Nat.xor_self]
  have DD : ∀ i j, i < n → j < n → dot n (D i) (fun k => D k j) = D i j := fun i j hi hj => by
    have e : dot n (D i) (fun k => D k j) = dot n (D i) (fun k => dot n (m k) (fun t => x t j) ^^^ (if k = j then 1 else 0)) := by
      refine dot_congr (fun _ _ => rfl) (fun k _ => ?_)
      rw [hD]
    rw [e, dot_add_right (hD8 i) (fun k => dot_lt (hm k) n) (fun k => hd8 k j), ← dot_dot (hD8 i) hm (hxc j) n n, dot_one_right (hD8 i) hj,
      dot_none_left (hxc j) (fun t ht => DM i t hi ht), Nat.zero_xor]
  intro i j hi hj
  by_cases hz : D i j = 0
  · rw [hD] at hz
    dsimp only at hz
    have := congrArg (fun z => z ^^^ (if i = j then 1 else 0)) hz
    try dsimp only at this
    rw [Nat.xor_assoc, Nat.xor_self, Nat.xor_zero, Nat.zero_xor] at this
    exact this
  · exfalso
    have hv := Gf.inv_lt (D i j)
    have hvd : Gf.mul (Gf.inv (D i j)) (D i j) = 1 := Gf.mul_inv (hD8 i j) hz
    have := id_le n (n + 1) (fun a => if a < n then x a else D i) (fun k b => if b < n then m k b else Gf.mul (Gf.inv (D i j)) (D k j))
      (fun a k => by (try dsimp only); split <;> first | exact hx a k | exact hD8 i k) (fun k b => by (try dsimp only); split <;> first | exact hm k b | exact Gf.mul_lt _ hv) (fun a b ha hb => by
        try dsimp only
        by_cases h1 : a < n
        · by_cases h2 : b < n
          · simp only [if_pos h1, if_pos h2]; exact h a b h1 h2
          · simp only [if_pos h1, if_neg h2]
            rw [dot_smul_right hv (hx a) (hDc j), XD a j h1 hj, Gf.mul_zero, if_neg (by omega)]
        · by_cases h2 : b < n
          · simp only [if_neg h1, if_pos h2]
            rw [DM i b hi h2, if_neg (by omega)]
          · simp only [if_neg h1, if_neg h2]
            rw [dot_smul_right hv (hD8 i) (hDc j), DD i j hi hj, hvd, if_pos (by omega)])
    omega
end Go.Proofs.Ytdagnmhioellhaa

/- The inverse's rank, and its inverse; products as matrices. -/

namespace Go.Proofs.Ytdagnmhioellhaa
set_option linter.unusedVariables false
set_option linter.unusedSimpArgs false

theorem dot_cut {u v : Nat → Nat} {r : Nat} : ∀ n, r ≤ n → (∀ k, r ≤ k → k < n → v k = 0) → dot n u v = dot r u v
  | 0, h, _ => by have : r = 0 := by omega
                  rw [this]
  | n + 1, h, hz => by
    by_cases hr : r = n + 1
    · rw [hr]
    · rw [dot_succ, hz n (by omega) (by omega), Gf.mul_zero, Nat.xor_zero, dot_cut n (by omega) (fun k h1 h2 => hz k h1 (by omega))]
theorem inv_rank {n : Nat} {ns : List Nat} (hl : ns.length = n * n) (hb : ∀ x ∈ ns, x < 256) (hr : rankL n n ns = n) : rankL n n (invO n ns) = n := by
  have lX := invO_length n ns
  have bX := invO_all hl hb
  have hs := steps_all (B := fun k j => ent n (invO n ns) k j) (fun k j => ent_lt bX k j) lX (oneL_length n n) bX (oneL_all n n) (one_prod bX) n (Nat.le_refl n)
  obtain ⟨G, hG, hd⟩ := undo_all (B := fun k j => ent n (invO n ns) k j) (fun k j => ent_lt bX k j) lX (oneL_length n n) bX (oneL_all n n) (one_prod bX) n (Nat.le_refl n)
  have hle := (rankL_le n n (invO n ns)).1
  have hrk : (elim n n n (invO n ns) (oneL n n) n).2.2 = rankL n n (invO n ns) := rankL_of n n n (invO n ns) (oneL n n)
  have hz := hs.zero
  have bF := hs.bM
  rw [hrk] at hz
  generalize (elim n n n (invO n ns) (oneL n n) n).1 = F at *
  have hX := inv_left hl hb hr
  have hm : ∀ j, B8 (fun k => ent n ns k j) := fun j k => ent_lt hb k j
  have := id_le (rankL n n (invO n ns)) n G (fun k j => dot n (ent n F k) (fun t => ent n ns t j)) hG (fun k j => dot_lt (ent_lt bF k) n) (fun i j hi hj => by
    rw [← hX i j hi hj, ← dot_cut n hle (fun k h1 h2 => dot_none_left (hm j) (fun t ht => hz k t h1 h2 ht)), ← dot_dot (hG i) (fun k => ent_lt bF k) (hm j) n n]
    exact dot_congr (fun t ht => (hd i t hi ht).symm) (fun _ _ => rfl))
  omega
theorem ent_ext {n : Nat} {l m : List Nat} (hl : l.length = n * n) (hm : m.length = n * n) (h : ∀ i j, i < n → j < n → ent n l i j = ent n m i j) : l = m := by
  apply list_getD_ext (by rw [hl, hm])
  intro p hp
  rw [hl] at hp
  have hn : 0 < n := by
    rcases Nat.eq_zero_or_pos n with e | e
    · rw [e] at hp; simp at hp
    · exact e
  have hi : p / n < n := Nat.div_lt_of_lt_mul hp
  have hj : p % n < n := Nat.mod_lt _ hn
  have e : p / n * n + p % n = p := by rw [Nat.mul_comm]; exact Nat.div_add_mod p n
  have := h (p / n) (p % n) hi hj
  rw [ent, ent, e] at this
  exact this
theorem inv_back {n : Nat} {ns : List Nat} (hl : ns.length = n * n) (hb : ∀ x ∈ ns, x < 256) (hr : rankL n n ns = n) : invO n (invO n ns) = ns := by
  have lX := invO_length n ns
  have bX := invO_all hl hb
  have h1 := inv_left hl hb hr
  have h2 := inv_left lX bX (inv_rank hl hb hr)
  have h3 := right_of_left (x := ent n (invO n ns)) (m := ent n ns) (fun i => ent_lt bX i) (fun i => ent_lt hb i) h1
  have b2 := invO_all lX bX
  have hx : ∀ j, B8 (fun k => ent n (invO n ns) k j) := fun j k => ent_lt bX k j
  have hm : ∀ j, B8 (fun k => ent n ns k j) := fun j k => ent_lt hb k j
  refine ent_ext (invO_length n _) hl (fun i j hi hj => ?_)
  have e1 : ent n (invO n (invO n ns)) i j = dot n (ent n (invO n (invO n ns)) i) (fun k => dot n (ent n (invO n ns) k) (fun t => ent n ns t j)) := by
    rw [dot_congr (u' := ent n (invO n (invO n ns)) i) (v' := fun k => if k = j then 1 else 0) (fun _ _ => rfl) (fun k hk => h1 k j hk hj), dot_one_right (ent_lt b2 i) hj]
  rw [e1, ← dot_dot (ent_lt b2 i) (fun k => ent_lt bX k) (hm j) n n, dot_congr (u' := fun t => if i = t then 1 else 0) (v' := fun t => ent n ns t j) (fun t ht => h2 i t hi ht) (fun _ _ => rfl), dot_one_left (hm j) hi]

theorem times_ent {ms bs : List Nat} {ra ca cb i j : Nat} (hi : i < ra) (hj : j < cb) : ent cb (timesL ms bs ra ca cb) i j = dot ca (ent ca ms i) (fun k => ent cb bs k j) := by
  have hp : i * cb + j < ra * cb := by have := row_fits (c := cb) hi; omega
  have hd : (i * cb + j) / cb = i := by rw [Nat.mul_comm, Nat.mul_add_div (by omega), Nat.div_eq_of_lt hj, Nat.add_zero]
  have hm : (i * cb + j) % cb = j := by rw [Nat.mul_comm, Nat.mul_add_mod, Nat.mod_eq_of_lt hj]
  have e : (timesL ms bs ra ca cb).getD (i * cb + j) 0 = dotK ms bs ca cb ((i * cb + j) / cb) ((i * cb + j) % cb) ca := by
    simp [timesL, List.getD, hp]
  rw [ent, e, hd, hm]; rfl
/-- A matrix times its inverse is one, both ways. -/
theorem times_inv {n : Nat} {ns : List Nat} (hl : ns.length = n * n) (hb : ∀ x ∈ ns, x < 256) (hr : rankL n n ns = n) : timesL ns (invO n ns) n n n = oneL n n ∧ timesL (invO n ns) ns n n n = oneL n n := by
  have bX := invO_all hl hb
  have h1 := inv_left hl hb hr
  have h3 := right_of_left (x := ent n (invO n ns)) (m := ent n ns) (fun i => ent_lt bX i) (fun i => ent_lt hb i) h1
  exact ⟨ent_ext (timesL_length _ _ _ _ _) (oneL_length n n) (fun i j hi hj => by rw [times_ent hi hj, oneL_one hi hj]; exact h3 i j hi hj),
    ent_ext (timesL_length _ _ _ _ _) (oneL_length n n) (fun i j hi hj => by rw [times_ent hi hj, oneL_one hi hj]; exact h1 i j hi hj)⟩
end Go.Proofs.Ytdagnmhioellhaa
