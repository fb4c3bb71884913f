/- matrix.Solve, walked. -/
import Derived.Test.YtijcmdcjjcemfaaPkA09
import Derived.Deep.RegionHeld3
namespace Go.Proofs.Ytijcmdcjjcemfaa
open Go.ChangeShapes Go.WideShapes Go.ChangeAt Go.RowKit Go.Joins Go.Shelf
set_option linter.unusedVariables false
set_option linter.unusedSimpArgs false
attribute [local go_sem] Oper.semAt_some

/-- How things lie while a matrix is brought into steps: both matrices, the count, both boxes. -/
structure Solv (w : World) (bm B1 B2 : Nat) (ra ca co n1 n2 k1 k2 : Nat) (S : List Nat × List Nat × Nat) : Prop where
  a : BytesBlk w B1 S.1
  b : BytesBlk w B2 S.2.1
  r : Boxed w (bm + 1 + 1) 3 (.int .i64 (S.2.2 : Int))
  m : Three w bm (.int .i64 (ra : Int)) (.int .i64 (ca : Int)) (.slice (some ⟨B1, 0, none⟩) n1 k1)
  o : Three w (bm + 1) (.int .i64 (ra : Int)) (.int .i64 (co : Int)) (.slice (some ⟨B2, 0, none⟩) n2 k2)
theorem Solv.below {w w' : World} {bm B1 B2 ra ca co n1 n2 k1 k2 : Nat} {S : List Nat × List Nat × Nat} (h : Solv w bm B1 B2 ra ca co n1 n2 k1 k2 S) (h1 : B1 < w.heap.size) (h2 : B2 < w.heap.size) (hb : Below w.heap.size w w') : Solv w' bm B1 B2 ra ca co n1 n2 k1 k2 S :=
  ⟨blk_below h.a h1 hb, blk_below h.b h2 hb, boxed_belowM h.r hb, h.m.below hb, h.o.below hb⟩
theorem below_of_drewG {w w' : World} (h : Below w.drew.heap.size w.drew w') : Below w.heap.size w w' :=
  (show Below w.heap.size w w.drew from ⟨rfl, rfl, rfl, Nat.le_refl _, fun _ _ => rfl⟩).trans h
theorem kept_low {p q : Nat → Prop} {w w' : World} (h : Kept p w w') (hp : ∀ k, k < w.heap.size → p k → q k) : Kept q w w' :=
  ⟨h.os, h.tape, h.output, h.size, fun k hk hq => h.block k hk (fun e => hq (hp k hk e))⟩

set_option maxRecDepth 100000 in
set_option maxHeartbeats 8000000 in
theorem solve_any (ra ca co B1 B2 k1 k2 : Nat) (M O : List Nat) (w : World) (h1 : BytesBlk w B1 M) (h2 : BytesBlk w B2 O) (hB1 : B1 < w.heap.size) (hB2 : B2 < w.heap.size) (hne : B1 ≠ B2)
    (hM : M.length = ra * ca) (hO : O.length = ra * co) (r1 : 1 ≤ ra) (r16 : ra ≤ 16) (c1 : 1 ≤ ca) (c16 : ca ≤ 16) (o1 : 1 ≤ co) (o16 : co ≤ 16) (hk1 : M.length ≤ k1) (hk1' : k1 ≤ 9223372036854775807) (hk2 : O.length ≤ k2) (hk2' : k2 ≤ 9223372036854775807) :
    Calls Try.prog 75 #[matV (ra : Int) (ca : Int) (.slice (some ⟨B1, 0, none⟩) M.length k1), matV (ra : Int) (co : Int) (.slice (some ⟨B2, 0, none⟩) O.length k2)] w fun e w' =>
      e = .returned (.int .i64 ((elim ra ca co M O ca).2.2 : Int)) ∧ BytesBlk w' B1 (elim ra ca co M O ca).1 ∧ BytesBlk w' B2 (elim ra ca co M O ca).2.1 ∧ Kept (fun j => j = B1 ∨ j = B2) w w' := by
  obtain ⟨oA, hoA⟩ : ∃ x, x = (Obj.cells #[.int .i64 (ra : Int), .int .i64 (ca : Int), .slice (some ⟨B1, 0, none⟩) M.length k1] 55) := ⟨_, rfl⟩
  obtain ⟨oB, hoB⟩ : ∃ x, x = (Obj.cells #[.int .i64 (ra : Int), .int .i64 (co : Int), .slice (some ⟨B2, 0, none⟩) O.length k2] 55) := ⟨_, rfl⟩
  obtain ⟨oR, hoR⟩ : ∃ x, x = (Obj.cells #[.int .i64 0] 3) := ⟨_, rfl⟩
  have tA := Three.new w (.int .i64 (ra : Int)) (.int .i64 (ca : Int)) (.slice (some ⟨B1, 0, none⟩) M.length k1) 55
  rw [← hoA] at tA
  have tB := Three.new (w.alloc oA) (.int .i64 (ra : Int)) (.int .i64 (co : Int)) (.slice (some ⟨B2, 0, none⟩) O.length k2) 55
  rw [World.size_alloc, ← hoB] at tB
  have tR := Boxed.new ((w.alloc oA).alloc oB) 3 (.int .i64 0)
  rw [World.size_alloc, World.size_alloc, ← hoR] at tR
  have hbe : Below w.heap.size w (((w.alloc oA).alloc oB).alloc oR) := (((Below.refl w.heap.size w).alloc (Nat.le_refl _) oA).alloc (by simp) oB).alloc (by simp; omega) oR
  have HV : Hid (Solv (((w.alloc oA).alloc oB).alloc oR) w.heap.size B1 B2 ra ca co M.length O.length k1 k2 (elim ra ca co M O 0)) := ⟨blk_below h1 hB1 hbe, blk_below h2 hB2 hbe, tR, (tA.alloc oB).alloc oR, tB.alloc oR⟩
  have hsz : (((w.alloc oA).alloc oB).alloc oR).heap.size = w.heap.size + 1 + 1 + 1 := by simp
  have HSZ := Lib.hid hsz
  have HBE := Lib.hid hbe
  have tm := (tA.alloc oB).alloc oR
  obtain ⟨a0, a1, a2, _, _, _⟩ := tm
  rw [hoA, hoB, hoR] at a0 a1 a2
  have HM := Lib.hid hM
  have HO := Lib.hid hO
  clear tA tB tR hbe h1 h2 hsz hM hO
  unfold matV
  refine callsIn_wide.1 (callsIn_of_wp_marks (n := 10) Try.func75 rfl trivial ?_ rfl)
  refine wpIn_wide.2 ?_
  simp only [Try.ntmps75, List.size_toArray, List.length_cons, List.length_nil, Nat.reduceAdd, Nat.reduceSub, Array.replicate_succ, Array.replicate_zero, List.push_toArray, List.append_toArray, List.nil_append, List.cons_append]
  go_wp2_with (first | go_step3)
  rw [← hoA, ← hoB, ← hoR]
  clear a0 a1 a2
  generalize ((w.alloc oA).alloc oB).alloc oR = W0 at *
  clear hoA hoB hoR
  refine wp_loop (fun a' wr => ∃ (dl : List Deferred) (u6 u7 u9 u10 u11 u12 u13 u16 u17 u18 u19 u20 u21 u22 u23 u24 u25 u26 u27 u28 u29 u30 u31 u32 u33 u34 u35 u36 u37 u38 u39 u40 u41 u42 u43 u44 u45 u46 u47 u48 u49 u50 u51 u52 u53 u54 u55 u56 u57 u58 u59 u60 u61 u62 u63 u64 u67 u68 u69 u70 u71 u72 u73 u74 u75 u76 u77 u78 u79 u80 u81 u82 u83 u84 u85 u86 u87 u88 u89 u90 u91 u92 u93 u94 u95 u96 : Value), (∃ c : Nat, u16 = .int .i64 c ∧ c ≤ ca ∧ Hid (Solv wr w.heap.size B1 B2 ra ca co M.length O.length k1 k2 (elim ra ca co M O c)) ∧ Hid (Kept (fun j => j = B1 ∨ j = B2 ∨ j = w.heap.size + 1 + 1) W0 wr) ∧ Hid (Marks (w.heap.size + 1 + 1 + 1) dl wr)) ∧ a' = { tmps := #[.agg #[.int .i64 (ra : Int), .int .i64 (ca : Int), .slice (some ⟨B1, 0, none⟩) M.length k1], .agg #[.int .i64 (ra : Int), .int .i64 (co : Int), .slice (some ⟨B2, 0, none⟩) O.length k2], .pointer (some ⟨w.heap.size, 0, none⟩), .pointer (some ⟨w.heap.size + 1, 0, none⟩), .int .i64 0, .pointer (some ⟨w.heap.size + 1 + 1, 0, none⟩), u6, u7, undef, u9, u10, u11, u12, u13, .pointer (some ⟨w.heap.size, 1, none⟩), .int .i64 (ca : Int), u16, u17, u18, u19, u20, u21, u22, u23, u24, u25, u26, u27, u28, u29, u30, u31, u32, u33, u34, u35, u36, u37, u38, u39, u40, u41, u42, u43, u44, u45, u46, u47, u48, u49, u50, u51, u52, u53, u54, u55, u56, u57, u58, u59, u60, u61, u62, u63, u64, undef, undef, u67, u68, u69, u70, u71, u72, u73, u74, u75, u76, u77, u78, u79, u80, u81, u82, u83, u84, u85, u86, u87, u88, u89, u90, u91, u92, u93, u94, u95, u96, undef], defers := dl }) (fun a' _ => ca - (intOf (a'.tmps.getD 16 undef)).toNat) ?_ ?_
  · (repeat apply Exists.intro)
    refine ⟨?_, rfl⟩
    exact ⟨0, rfl, by omega, HV, Lib.hid (Kept.refl _ _), Lib.hid (Marks.nil _ _)⟩
  · intro _ wr hinv
    obtain ⟨dl, hinv⟩ := hinv
    obtain ⟨u6, hinv⟩ := hinv
    obtain ⟨u7, hinv⟩ := hinv
    obtain ⟨u9, hinv⟩ := hinv
    obtain ⟨u10, hinv⟩ := hinv
    obtain ⟨u11, hinv⟩ := hinv
    obtain ⟨u12, hinv⟩ := hinv
    obtain ⟨u13, hinv⟩ := hinv
    obtain ⟨u16, hinv⟩ := hinv
    obtain ⟨u17, hinv⟩ := hinv
    obtain ⟨u18, hinv⟩ := hinv
    obtain ⟨u19, hinv⟩ := hinv
    obtain ⟨u20, hinv⟩ := hinv
    obtain ⟨u21, hinv⟩ := hinv
    obtain ⟨u22, hinv⟩ := hinv
    obtain ⟨u23, hinv⟩ := hinv
    obtain ⟨u24, hinv⟩ := hinv
    obtain ⟨u25, hinv⟩ := hinv
    obtain ⟨u26, hinv⟩ := hinv
    obtain ⟨u27, hinv⟩ := hinv
    obtain ⟨u28, hinv⟩ := hinv
    obtain ⟨u29, hinv⟩ := hinv
    obtain ⟨u30, hinv⟩ := hinv
    obtain ⟨u31, hinv⟩ := hinv
    obtain ⟨u32, hinv⟩ := hinv
    obtain ⟨u33, hinv⟩ := hinv
    obtain ⟨u34, hinv⟩ := hinv
    obtain ⟨u35, hinv⟩ := hinv
    obtain ⟨u36, hinv⟩ := hinv
    obtain ⟨u37, hinv⟩ := hinv
    obtain ⟨u38, hinv⟩ := hinv
    obtain ⟨u39, hinv⟩ := hinv
    obtain ⟨u40, hinv⟩ := hinv
    obtain ⟨u41, hinv⟩ := hinv
    obtain ⟨u42, hinv⟩ := hinv
    obtain ⟨u43, hinv⟩ := hinv
    obtain ⟨u44, hinv⟩ := hinv
    obtain ⟨u45, hinv⟩ := hinv
    obtain ⟨u46, hinv⟩ := hinv
    obtain ⟨u47, hinv⟩ := hinv
    obtain ⟨u48, hinv⟩ := hinv
    obtain ⟨u49, hinv⟩ := hinv
    obtain ⟨u50, hinv⟩ := hinv
    obtain ⟨u51, hinv⟩ := hinv
    obtain ⟨u52, hinv⟩ := hinv
    obtain ⟨u53, hinv⟩ := hinv
    obtain ⟨u54, hinv⟩ := hinv
    obtain ⟨u55, hinv⟩ := hinv
    obtain ⟨u56, hinv⟩ := hinv
    obtain ⟨u57, hinv⟩ := hinv
    obtain ⟨u58, hinv⟩ := hinv
    obtain ⟨u59, hinv⟩ := hinv
    obtain ⟨u60, hinv⟩ := hinv
    obtain ⟨u61, hinv⟩ := hinv
    obtain ⟨u62, hinv⟩ := hinv
    obtain ⟨u63, hinv⟩ := hinv
    obtain ⟨u64, hinv⟩ := hinv
    obtain ⟨u67, hinv⟩ := hinv
    obtain ⟨u68, hinv⟩ := hinv
    obtain ⟨u69, hinv⟩ := hinv
    obtain ⟨u70, hinv⟩ := hinv
    obtain ⟨u71, hinv⟩ := hinv
    obtain ⟨u72, hinv⟩ := hinv
    obtain ⟨u73, hinv⟩ := hinv
    obtain ⟨u74, hinv⟩ := hinv
    obtain ⟨u75, hinv⟩ := hinv
    obtain ⟨u76, hinv⟩ := hinv
    obtain ⟨u77, hinv⟩ := hinv
    obtain ⟨u78, hinv⟩ := hinv
    obtain ⟨u79, hinv⟩ := hinv
    obtain ⟨u80, hinv⟩ := hinv
    obtain ⟨u81, hinv⟩ := hinv
    obtain ⟨u82, hinv⟩ := hinv
    obtain ⟨u83, hinv⟩ := hinv
    obtain ⟨u84, hinv⟩ := hinv
    obtain ⟨u85, hinv⟩ := hinv
    obtain ⟨u86, hinv⟩ := hinv
    obtain ⟨u87, hinv⟩ := hinv
    obtain ⟨u88, hinv⟩ := hinv
    obtain ⟨u89, hinv⟩ := hinv
    obtain ⟨u90, hinv⟩ := hinv
    obtain ⟨u91, hinv⟩ := hinv
    obtain ⟨u92, hinv⟩ := hinv
    obtain ⟨u93, hinv⟩ := hinv
    obtain ⟨u94, hinv⟩ := hinv
    obtain ⟨u95, hinv⟩ := hinv
    obtain ⟨u96, hinv⟩ := hinv
    obtain ⟨hrel, ha⟩ := hinv
    subst ha
    try dsimp only
    obtain ⟨c, rfl, hc, HS, HKW, HMKS⟩ := hrel
    have HK := Lib.hid (Kept.refl (fun j => j = B1 ∨ j = B2 ∨ j = w.heap.size + 1 + 1) wr)
    have HEL := Lib.hid (elim_length ra ca co M O c)
    have HER := Lib.hid (elim_rank ra ca co M O c)
    have HES := Lib.hid (elim_succ ra ca co M O c)
    by_cases hcc : c < ca
    · obtain ⟨S, hS⟩ : ∃ S, S = elim ra ca co M O c := ⟨_, rfl⟩
      rw [← hS] at HS HEL HER HES
      clear hS
      obtain ⟨Mc, Oc, rk⟩ := S
      dsimp only at HS HEL HER HES
      obtain ⟨oC, hoC⟩ : ∃ x, x = (Obj.cells #[.int .i64 (c : Int)] 3) := ⟨_, rfl⟩
      have tC := Boxed.new wr 3 (.int .i64 (c : Int))
      rw [← hoC] at tC
      have hbC := (Below.refl wr.heap.size wr).alloc (Nat.le_refl _) oC
      have hsW := HKW.out.size
      rw [HSZ.out] at hsW
      have HSC := Lib.hid (HS.out.below (by omega) (by omega) hbC)
      have z0 := HSC.out.r.cell
      rw [hoC] at z0
      have hCsz : wr.heap.size < (wr.alloc oC).heap.size := by simp
      have HKC := Lib.hid (HK.out.trans (Kept.of_below (p := fun j => j = B1 ∨ j = B2 ∨ j = w.heap.size + 1 + 1) hbC))
      have HC := Lib.hid tC
      have HWS := Lib.hid (elim_rank ra ca co M O c)
      dsimp only at z0
      clear hbC tC HS HK
      go_wp2_with fail
      rw [← hoC]
      clear z0
      generalize wr.alloc oC = V at *
      generalize hbc : wr.heap.size = bc at *
      clear hoC hbc
      have hrk : rk ≤ ra := HER.out.1
      go_loopw [7] (fun ii wr => ∃ i : Nat, ii = .int .i64 i ∧ rk ≤ i ∧ i ≤ ra ∧ findP Mc ca c rk (ra - rk) = findP Mc ca c i (ra - i) ∧ Hid (Below V.heap.size V wr)) (fun ii _ => ra - (intOf ii).toNat)
      case atStart => exact ⟨rk, rfl, Nat.le_refl _, hrk, rfl, Lib.hid (Below.refl _ _)⟩
      case round =>
        obtain ⟨i, rfl, hri, hir, hfp, HB⟩ := hrel
        have HSV := Lib.hid (HSC.out.below (by omega) (by omega) HB.out)
        have HCV := Lib.hid (boxed_belowM HC.out HB.out)
        obtain ⟨m0, m1, m2, _, _, _⟩ := HSV.out.m
        have z0 := HSV.out.r.cell
        have c0 := HCV.out.cell
        dsimp only at z0 c0
        by_cases hlt : i < ra
        · have hia : i * ca + c < Mc.length := by
            rw [HEL.out.1, HM.out]
            have := Nat.mul_le_mul_right ca hlt
            rw [Nat.succ_mul] at this; omega
          have hin : (i + 1) * ca ≤ M.length := by rw [HM.out]; exact Nat.mul_le_mul_right ca hlt
          have hb1 : B1 < wr.heap.size := by have := HB.out.size; omega
          obtain ⟨q1, q2, _⟩ := HSV.out.a (i * ca + c) hia
          have HV8 := Lib.hid (show Mc.getD (i * ca + c) 0 < 256 from q1)
          obtain ⟨x, hx⟩ : ∃ x, x = Mc.getD (i * ca + c) 0 := ⟨_, rfl⟩
          dsimp only at q2
          rw [← hx] at q2 HV8
          have i0 : (0 : Int) ≤ (c : Int) := by omega
          have i1 : (c : Int) < (ca : Int) := by omega
          have HX := Lib.hid hx
          have HH : Hid (∀ W', Below wr.heap.size wr W' → W'.cell? ⟨w.heap.size, 0, none⟩ = some (.int .i64 (ra : Int)) ∧ W'.cell? ⟨w.heap.size, 1, none⟩ = some (.int .i64 (ca : Int)) ∧ W'.cell? ⟨w.heap.size, 2, none⟩ = some (.slice (some ⟨B1, 0, none⟩) M.length k1) ∧ W'.cell? ⟨bc, 0, none⟩ = some (.int .i64 (c : Int)) ∧ W'.cell? ⟨B1, i * ca + c, none⟩ = some (.int .u8 (x : Int))) := fun W' h =>
            ⟨below_celllt m0 (cell_block m0) h, below_celllt m1 (cell_block m1) h, below_celllt m2 (cell_block m2) h, below_celllt c0 (cell_block c0) h, below_celllt q2 hb1 h⟩
          clear hx hia q1 z0
          go_upto_region 8 with (fail)
          go_region_held3 (fun W' => W'.cell? ⟨w.heap.size, 0, none⟩ = some (.int .i64 (ra : Int)) ∧ W'.cell? ⟨w.heap.size, 1, none⟩ = some (.int .i64 (ca : Int)) ∧ W'.cell? ⟨w.heap.size, 2, none⟩ = some (.slice (some ⟨B1, 0, none⟩) M.length k1) ∧ W'.cell? ⟨bc, 0, none⟩ = some (.int .i64 (c : Int)) ∧ W'.cell? ⟨B1, i * ca + c, none⟩ = some (.int .u8 (x : Int))) (first | exact HH.out _ (below_of_drewG (by assumption)) | go_keep | exact HH.out _ (Below.drew (Below.refl _ _)) | exact HH.out _ (Below.refl _ _))
            (first | (go_at_call 73; refine (row_any (ra : Int) ca i B1 0 M.length k1 _ c16 c1 (by omega) hin hk1 hk1').mono ?_; rintro e w1 ⟨rfl, hbx⟩))
          have hw1 := below_of_drewG hbx
          have hb1' := HB.out.trans (hw1.mono HB.out.size)
          have HS1 := Lib.hid (HSC.out.below (by omega) (by omega) hb1')
          have HC1 := Lib.hid (boxed_belowM HC.out hb1')
          have HK1 := Lib.hid (HKC.out.trans (Kept.of_below (p := fun j => j = B1 ∨ j = B2 ∨ j = w.heap.size + 1 + 1) hb1'))
          have hsz1 : V.heap.size ≤ w1.heap.size := hb1'.size
          have HB1 := Lib.hid hb1'
          clear hbx hw1 hb1' m0 m1 m2 c0 q2 HH HSV HCV HB hb1
          by_cases hx0 : x = 0
          · have hfp2 : findP Mc ca c rk (ra - rk) = findP Mc ca c (i + 1) (ra - (i + 1)) := by
              rw [hfp, show ra - i = (ra - (i + 1)) + 1 by omega, findP, if_pos (HX.out.symm.trans hx0)]
            have hxd : ((x : Int) == 0) = true := by rw [hx0]; rfl
            clear hx0 hfp
            go_wp2_with fail
            go_roundw
            case rel => exact ⟨i + 1, by go_num, by omega, by omega, hfp2, HB1⟩
            case measure => simp [intOf]; omega
          · have hfi : findP Mc ca c rk (ra - rk) = i := by
              rw [hfp, show ra - i = (ra - (i + 1)) + 1 by omega, findP, if_neg (fun e => hx0 (HX.out.trans e))]
            have hxd : ((x : Int) == 0) = false := beq_eq_false_iff_ne.2 (by omega)
            have HN : Hid (elim ra ca co M O (c + 1) = ((clrAll ca co c rk ra (pivM ca c i rk Mc, pivO ca co c i rk Mc Oc)).1, (clrAll ca co c rk ra (pivM ca c i rk Mc, pivO ca co c i rk Mc Oc)).2, rk + 1)) := by rw [Hid, HES.out, colStep]; dsimp only; rw [hfi, if_pos hlt]
            clear hfi hfp HES HX HB1 HSC HC HKC
            have hinr : (rk + 1) * ca ≤ M.length := by rw [HM.out]; exact Nat.mul_le_mul_right ca (by omega)
            have hio : (i + 1) * co ≤ O.length := by rw [HO.out]; exact Nat.mul_le_mul_right co hlt
            have hior : (rk + 1) * co ≤ O.length := by rw [HO.out]; exact Nat.mul_le_mul_right co (by omega)
            obtain ⟨m0, m1, m2, _, _, _⟩ := HS1.out.m
            obtain ⟨n0, n1, n2, _, _, _⟩ := HS1.out.o
            obtain ⟨oL, hoL⟩ : ∃ x, x = (Obj.cells #[.int .i64 (ra : Int), .int .i64 (ca : Int), .slice (some ⟨B1, 0, none⟩) M.length k1, .int .i64 (ra : Int), .int .i64 (co : Int), .slice (some ⟨B2, 0, none⟩) O.length k2] 55) := ⟨_, rfl⟩
            have hbL := (Below.refl w1.heap.size w1).alloc (Nat.le_refl _) oL
            have HSL := Lib.hid (HS1.out.below (by omega) (by omega) hbL)
            have HCL := Lib.hid (boxed_belowM HC1.out hbL)
            have HKL := Lib.hid (HK1.out.trans (Kept.of_below (p := fun j => j = B1 ∨ j = B2 ∨ j = w.heap.size + 1 + 1) hbL))
            have hL : (w1.alloc oL).cell? ⟨w1.heap.size, 0, none⟩ = some (.int .i64 (ra : Int)) ∧ (w1.alloc oL).cell? ⟨w1.heap.size, 1, none⟩ = some (.int .i64 (ca : Int)) ∧ (w1.alloc oL).cell? ⟨w1.heap.size, 2, none⟩ = some (.slice (some ⟨B1, 0, none⟩) M.length k1) ∧ (w1.alloc oL).cell? ⟨w1.heap.size, 3, none⟩ = some (.int .i64 (ra : Int)) ∧ (w1.alloc oL).cell? ⟨w1.heap.size, 4, none⟩ = some (.int .i64 (co : Int)) ∧ (w1.alloc oL).cell? ⟨w1.heap.size, 5, none⟩ = some (.slice (some ⟨B2, 0, none⟩) O.length k2) := by
              rw [hoL]; exact ⟨by simp [go_sem], by simp [go_sem], by simp [go_sem], by simp [go_sem], by simp [go_sem], by simp [go_sem]⟩
            have HL := Lib.hid hL
            have hLsz : w1.heap.size < (w1.alloc oL).heap.size := by simp
            clear hL hbL HS1 HC1 HK1
            go_wp2_with fail
            rw [← hoL, hxd]
            clear hxd
            clear hoL m0 m1 m2 n0 n1 n2
            generalize w1.alloc oL = VL at *
            generalize hbl : w1.heap.size = bl at *
            clear hbl
            go_loopw [9, 37] (fun _ jj wr => ∃ j : Nat, jj = .int .i64 j ∧ j ≤ 2 ∧ Hid (BytesBlk wr B1 (if 0 < j then swapL ca i rk Mc else Mc)) ∧ Hid (BytesBlk wr B2 (if 1 < j then swapL co i rk Oc else Oc)) ∧ Hid (Kept (fun k => k = B1 ∨ k = B2) VL wr)) (fun _ jj _ => 2 - (intOf jj).toNat)
            case atStart => exact ⟨0, rfl, by omega, Lib.hid HSL.out.a, Lib.hid HSL.out.b, Lib.hid (Kept.refl _ _)⟩
            case round =>
              obtain ⟨j, rfl, hj, HA, HBk, HKr⟩ := hrel
              obtain ⟨l0, l1, l2, l3, l4, l5⟩ := HL.out
              have hsr := HKr.out.size
              have kc : ∀ d v, VL.cell? ⟨bl, d, none⟩ = some v → wr.cell? ⟨bl, d, none⟩ = some v := fun d v h => by rw [HKr.out.cell (d := ⟨bl, d, none⟩) hLsz (by dsimp only; omega)]; exact h
              have z0 := Boxed.cell (boxed_keptM (p := fun k => k = B1 ∨ k = B2) HSL.out.r HKr.out (by omega))
              dsimp only at z0
              replace l0 := kc _ _ l0
              replace l1 := kc _ _ l1
              replace l2 := kc _ _ l2
              replace l3 := kc _ _ l3
              replace l4 := kc _ _ l4
              replace l5 := kc _ _ l5
              clear kc
              have hz9 : w.heap.size + 1 + 1 < wr.heap.size := by omega
              have hz8 : w.heap.size + 1 + 1 ≠ wr.heap.size := by omega
              rcases (by omega : j = 0 ∨ j = 1 ∨ j = 2) with rfl | rfl | rfl
              · have hbT := (Below.refl wr.heap.size wr).alloc (Nat.le_refl _) (.cells #[.int .i64 (ra : Int), .int .i64 (ca : Int), .slice (some ⟨B1, 0, none⟩) M.length k1] 55)
                have HDA := Lib.hid (blk_below HA.out (by omega) hbT)
                have HDB := Lib.hid (blk_below HBk.out (by omega) hbT)
                have HKT := Lib.hid (HKr.out.trans (Kept.of_below (p := fun k => k = B1 ∨ k = B2) hbT))
                have tT := Three.new wr (.int .i64 (ra : Int)) (.int .i64 (ca : Int)) (.slice (some ⟨B1, 0, none⟩) M.length k1) 55
                have hs9 : wr.heap.size < (wr.alloc (.cells #[.int .i64 (ra : Int), .int .i64 (ca : Int), .slice (some ⟨B1, 0, none⟩) M.length k1] 55)).heap.size := by simp
                clear hbT
                go_wp2_with fail
                generalize wr.alloc (.cells #[.int .i64 (ra : Int), .int .i64 (ca : Int), .slice (some ⟨B1, 0, none⟩) M.length k1] 55) = wT at *
                refine (turn_any (ra : Int) ca i rk B1 M.length k1 Mc wT HDA.out (by omega) HEL.out.1.symm c1 c16 (by omega) (by omega) hin hinr hk1 hk1' (by have h := HM.out; rw [h]; exact Nat.mul_le_mul r16 c16)).mono ?_
                rintro e wU ⟨rfl, hdt, hkt⟩
                have HKU := Lib.hid (HKT.out.trans (kept_low (q := fun k => k = B1 ∨ k = B2) hkt (fun k _ e => by omega)))
                have hres := And.intro (Lib.hid hdt) (Lib.hid (blk_keptM HDB.out (by omega) hkt (by omega)))
                clear hdt hkt HKT HDA HDB tT
                go_wp2_with fail
                go_roundw
                case rel => exact ⟨1, by go_num, by omega, hres.1, hres.2, HKU⟩
                case measure => simp [intOf]
              · have hbT := (Below.refl wr.heap.size wr).alloc (Nat.le_refl _) (.cells #[.int .i64 (ra : Int), .int .i64 (co : Int), .slice (some ⟨B2, 0, none⟩) O.length k2] 55)
                have HDA := Lib.hid (blk_below HA.out (by omega) hbT)
                have HDB := Lib.hid (blk_below HBk.out (by omega) hbT)
                have HKT := Lib.hid (HKr.out.trans (Kept.of_below (p := fun k => k = B1 ∨ k = B2) hbT))
                have tT := Three.new wr (.int .i64 (ra : Int)) (.int .i64 (co : Int)) (.slice (some ⟨B2, 0, none⟩) O.length k2) 55
                have hs9 : wr.heap.size < (wr.alloc (.cells #[.int .i64 (ra : Int), .int .i64 (co : Int), .slice (some ⟨B2, 0, none⟩) O.length k2] 55)).heap.size := by simp
                clear hbT
                go_wp2_with fail
                generalize wr.alloc (.cells #[.int .i64 (ra : Int), .int .i64 (co : Int), .slice (some ⟨B2, 0, none⟩) O.length k2] 55) = wT at *
                refine (turn_any (ra : Int) co i rk B2 O.length k2 Oc wT HDB.out (by omega) HEL.out.2.symm o1 o16 (by omega) (by omega) hio hior hk2 hk2' (by have h := HO.out; rw [h]; exact Nat.mul_le_mul r16 o16)).mono ?_
                rintro e wU ⟨rfl, hdt, hkt⟩
                have HKU := Lib.hid (HKT.out.trans (kept_low (q := fun k => k = B1 ∨ k = B2) hkt (fun k _ e => by omega)))
                have hres := And.intro (Lib.hid hdt) (Lib.hid (blk_keptM HDA.out (by omega) hkt (by omega)))
                clear hdt hkt HKT HDA HDB tT
                go_wp2_with fail
                go_roundw
                case rel => exact ⟨2, by go_num, by omega, hres.2, hres.1, HKU⟩
                case measure => simp [intOf]
              · clear l0 l1 l2 l3 l4 l5 hz8 hz9 z0
                obtain ⟨M1, hM1⟩ : ∃ x, x = swapL ca i rk Mc := ⟨_, rfl⟩
                obtain ⟨O1, hO1⟩ : ∃ x, x = swapL co i rk Oc := ⟨_, rfl⟩
                have hl1 : M1.length = M.length := by rw [hM1, swapL_length]; exact HEL.out.1
                have hl2 : O1.length = O.length := by rw [hO1, swapL_length]; exact HEL.out.2
                rw [if_pos (by omega), ← hM1] at HA
                rw [if_pos (by omega), ← hO1] at HBk
                have HM1 := Lib.hid hM1
                have HO1 := Lib.hid hO1
                have HBOX : Hid (∀ W', Kept (fun k => k = B1 ∨ k = B2) VL W' → Three W' w.heap.size (.int .i64 (ra : Int)) (.int .i64 (ca : Int)) (.slice (some ⟨B1, 0, none⟩) M.length k1) ∧ Three W' (w.heap.size + 1) (.int .i64 (ra : Int)) (.int .i64 (co : Int)) (.slice (some ⟨B2, 0, none⟩) O.length k2) ∧ Boxed W' (w.heap.size + 1 + 1) 3 (.int .i64 (rk : Int)) ∧ Boxed W' bc 3 (.int .i64 (c : Int))) := fun W' h =>
                  ⟨HSL.out.m.below' h (by omega), HSL.out.o.below' h (by omega), boxed_keptM (p := fun k => k = B1 ∨ k = B2) HSL.out.r h (by omega), boxed_keptM (p := fun k => k = B1 ∨ k = B2) HCL.out h (by omega)⟩
                clear hM1 hO1 HSL HCL HL
                go_wp2_with fail
                obtain ⟨⟨m0, m1, m2, _, _, _⟩, ⟨n0, n1, n2, _, _, _⟩, bz, bcx⟩ := HBOX.out _ HKr.out
                have z0 := bz.cell
                have c0 := bcx.cell
                have hB1r : B1 < wr.heap.size := by omega
                have hB2r : B2 < wr.heap.size := by omega
                have hrlt : rk < ra := by omega
                have hin5 := hinr
                rw [Nat.add_mul, Nat.one_mul] at hin5
                obtain ⟨q1, q2, _⟩ := HA.out (rk * ca + c) (by omega)
                obtain ⟨p1, hp1⟩ : ∃ x, x = M1.getD (rk * ca + c) 0 := ⟨_, rfl⟩
                rw [← hp1] at q1 q2
                have HP1 := Lib.hid hp1
                have HOV : Hid (∀ W, Calls Try.prog 83 #[.int .u8 (p1 : Int)] W fun e w' => e = .returned (.int .u8 ((Gf.inv p1 : Nat) : Int)) ∧ W = w') := fun W => over_nat p1 W q1
                have i0 : (0 : Int) ≤ (c : Int) := by omega
                have i1 : (c : Int) < (ca : Int) := by omega
                have HH : Hid (∀ W', Below wr.heap.size wr W' → W'.cell? ⟨w.heap.size, 0, none⟩ = some (.int .i64 (ra : Int)) ∧ W'.cell? ⟨w.heap.size, 1, none⟩ = some (.int .i64 (ca : Int)) ∧ W'.cell? ⟨w.heap.size, 2, none⟩ = some (.slice (some ⟨B1, 0, none⟩) M.length k1) ∧ W'.cell? ⟨w.heap.size + 1 + 1, 0, none⟩ = some (.int .i64 (rk : Int)) ∧ W'.cell? ⟨bc, 0, none⟩ = some (.int .i64 (c : Int)) ∧ W'.cell? ⟨B1, rk * ca + c, none⟩ = some (.int .u8 (p1 : Int))) := fun W' h =>
                  ⟨below_celllt m0 (cell_block m0) h, below_celllt m1 (cell_block m1) h, below_celllt m2 (cell_block m2) h, below_celllt z0 (cell_block z0) h, below_celllt c0 (cell_block c0) h, below_celllt q2 hB1r h⟩
                clear hp1 n0 n1 n2 bz bcx q1
                go_region_held3 (fun W' => W'.cell? ⟨w.heap.size, 0, none⟩ = some (.int .i64 (ra : Int)) ∧ W'.cell? ⟨w.heap.size, 1, none⟩ = some (.int .i64 (ca : Int)) ∧ W'.cell? ⟨w.heap.size, 2, none⟩ = some (.slice (some ⟨B1, 0, none⟩) M.length k1) ∧ W'.cell? ⟨w.heap.size + 1 + 1, 0, none⟩ = some (.int .i64 (rk : Int)) ∧ W'.cell? ⟨bc, 0, none⟩ = some (.int .i64 (c : Int)) ∧ W'.cell? ⟨B1, rk * ca + c, none⟩ = some (.int .u8 (p1 : Int))) (first | exact HH.out _ (below_of_drewG (by assumption)) | go_keep)
                  (first | (go_at_call 73; refine (row_any (ra : Int) ca rk B1 0 M.length k1 _ c16 c1 (by omega) hinr hk1 hk1').mono ?_; rintro e wA ⟨rfl, hbx⟩) | (go_at_call 83; refine (HOV.out _).mono ?_; rintro e wZ ⟨rfl, rfl⟩))
                have hwA := below_of_drewG hbx
                have HAA := Lib.hid (blk_below HA.out hB1r hwA)
                have HAB := Lib.hid (blk_below HBk.out hB2r hwA)
                have hsA := hwA.size
                have HKA := Lib.hid (HKr.out.trans (Kept.of_below (p := fun k => k = B1 ∨ k = B2) hwA))
                clear hbx hwA m0 m1 m2 z0 c0 q2 HH HOV HA HBk HKr
                obtain ⟨v, hv⟩ : ∃ v, v = Gf.inv p1 := ⟨_, rfl⟩
                have hv256 : v < 256 := by rw [hv]; exact Gf.inv_lt _
                rw [← hv]
                have HV2 := Lib.hid hv
                clear hv
                obtain ⟨⟨m0, m1, m2, _, _, _⟩, ⟨n0, n1, n2, _, _, _⟩, bz, bcx⟩ := HBOX.out _ HKA.out
                have z0 := bz.cell
                clear n0 n1 n2 bcx
                go_wp2_with fail
                refine (row_any (ra : Int) ca rk B1 0 M.length k1 _ c16 c1 (by omega) hinr hk1 hk1').mono ?_
                rintro e wC ⟨rfl, hbx⟩
                have hdC := blk_below HAA.out (by omega) hbx
                have hoC2 := blk_below HAB.out (by omega) hbx
                have hsC := hbx.size
                have HKC1 := Lib.hid (HKA.out.trans (Kept.of_below (p := fun k => k = B1 ∨ k = B2) hbx))
                have hM256 : M1.length ≤ 256 := by rw [hl1, HM.out]; exact Nat.mul_le_mul r16 c16
                have HDC := Lib.hid hdC
                have HOC := Lib.hid hoC2
                clear hbx hdC hoC2 HAA HAB HKA m0 m1 m2 z0
                go_wp2_with fail
                refine (scale_any B1 (rk * ca) ca (k1 - rk * ca) M1 v _ HDC.out (by omega) (by omega) (by omega) hv256).mono ?_
                rintro e wD ⟨rfl, hdd, hkd⟩
                have HDD := Lib.hid (show BytesBlk wD B1 (scaleL ca rk v M1) from hdd)
                have HOD := Lib.hid (blk_keptM HOC.out (by omega) hkd (by omega))
                have hsD := hkd.size
                have HKD := Lib.hid (HKC1.out.trans (kept_low (q := fun k => k = B1 ∨ k = B2) hkd (fun k _ e => Or.inl e)))
                clear hdd hkd HDC HOC HKC1
                obtain ⟨⟨m0, m1, m2, _, _, _⟩, ⟨n0, n1, n2, _, _, _⟩, bz, bcx⟩ := HBOX.out _ HKD.out
                have z0 := bz.cell
                clear m0 m1 m2 bcx
                go_wp2_with fail
                refine (row_any (ra : Int) co rk B2 0 O.length k2 _ o16 o1 (by omega) hior hk2 hk2').mono ?_
                rintro e wE ⟨rfl, hbx⟩
                have hdC := blk_below HDD.out (by omega) hbx
                have hoC2 := blk_below HOD.out (by omega) hbx
                have hsE := hbx.size
                have HKE := Lib.hid (HKD.out.trans (Kept.of_below (p := fun k => k = B1 ∨ k = B2) hbx))
                have HDE := Lib.hid hdC
                have HOE := Lib.hid hoC2
                clear hbx hdC hoC2 HDD HOD HKD n0 n1 n2 z0
                have hior5 := hior
                rw [Nat.add_mul, Nat.one_mul] at hior5
                have hO256 : O1.length ≤ 256 := by rw [hl2, HO.out]; exact Nat.mul_le_mul r16 o16
                go_wp2_with fail
                refine (scale_any B2 (rk * co) co (k2 - rk * co) O1 v _ HOE.out (by omega) (by omega) (by omega) hv256).mono ?_
                rintro e wF ⟨rfl, hdd, hkd⟩
                have HOF := Lib.hid (show BytesBlk wF B2 (scaleL co rk v O1) from hdd)
                have HDF := Lib.hid (blk_keptM HDE.out (by omega) hkd (by omega))
                have hsF := hkd.size
                have HKF := Lib.hid (HKE.out.trans (kept_low (q := fun k => k = B1 ∨ k = B2) hkd (fun k _ e => Or.inr e)))
                clear hdd hkd HDE HOE HKE
                have HPM : Hid (pivM ca c i rk Mc = scaleL ca rk v M1) := by rw [Hid, pivM, ← HM1.out, ← HP1.out, ← HV2.out]
                have HPO : Hid (pivO ca co c i rk Mc Oc = scaleL co rk v O1) := by rw [Hid, pivO, ← HM1.out, ← HO1.out, ← HP1.out, ← HV2.out]
                rw [← HPM.out] at HDF
                rw [← HPO.out] at HOF
                obtain ⟨⟨m0, m1, m2, _, _, _⟩, ⟨n0, n1, n2, _, _, _⟩, bz, bcx⟩ := HBOX.out _ HKF.out
                have HPL : Hid ((pivM ca c i rk Mc).length = M.length ∧ (pivO ca co c i rk Mc Oc).length = O.length) := ⟨by rw [pivM_length]; exact HEL.out.1, by rw [pivO_length]; exact HEL.out.2⟩
                clear n0 n1 n2 bcx bz hl1 hl2 hv256 HPM HPO HM1 HO1 HP1 HV2
                go_wp2_with fail
                refine (rows_any (ra : Int) (ca : Int) (some ⟨B1, 0, none⟩) M.length k1 _).mono ?_
                rintro e wG ⟨rfl, rfl⟩
                have hbG := (Below.refl wF.heap.size wF).alloc (Nat.le_refl _) (.cells #[.int .i64 (ra : Int), .int .i64 (ca : Int), .slice (some ⟨B1, 0, none⟩) M.length k1] 55)
                have TG := Lib.hid (Three.new wF (.int .i64 (ra : Int)) (.int .i64 (ca : Int)) (.slice (some ⟨B1, 0, none⟩) M.length k1) 55)
                have HDG := Lib.hid (blk_below HDF.out (by omega) hbG)
                have HOG := Lib.hid (blk_below HOF.out (by omega) hbG)
                have HKG := Lib.hid (HKF.out.trans (Kept.of_below (p := fun k => k = B1 ∨ k = B2) hbG))
                have hsG : wF.heap.size < (wF.alloc (.cells #[.int .i64 (ra : Int), .int .i64 (ca : Int), .slice (some ⟨B1, 0, none⟩) M.length k1] 55)).heap.size := by simp
                clear hbG HDF HOF HKF m0 m1 m2
                generalize wF.alloc (.cells #[.int .i64 (ra : Int), .int .i64 (ca : Int), .slice (some ⟨B1, 0, none⟩) M.length k1] 55) = wH at *
                generalize hbn : wF.heap.size = bn at *
                clear hbn
                generalize pivM ca c i rk Mc = PM at *
                generalize pivO ca co c i rk Mc Oc = PO at *
                have hPM := HPL.out.1
                have hPO := HPL.out.2
                go_wp2_with fail
                refine (wpIn_wide (n := 10)).1 ?_
                apply wpIn_rangeFunc_ownF (α := Fin ra) (encs := encRow B1 0 ca k1) (Kp := KeepsBox bn) (S := fun xs => xs = finL ra ra (Nat.le_refl ra)) (Sp := fun pre => ∃ j, ∃ h : j ≤ ra, pre = finL ra j h) (N := ra) (w0 := wH) rfl (by omega) (gf := 77) (lb := #[.pointer (some ⟨bn, 0, none⟩)]) rfl trivial (enters_of Try.func77 (by kernel_rfl) rfl)
                  (rows1_stops bn ra ca B1 0 M.length k1 wH hsG TG.out r16 c16 c1 (by have := HM.out; omega) hk1 hk1') keepsBox_t (keepsBox_b hsG) (Below.refl _ _) (fun _ => rfl)
                  (fun pre W => (BytesBlk W B1 (clrF ca co c rk (PM, PO) pre).1 ∧ BytesBlk W B2 (clrF ca co c rk (PM, PO) pre).2) ∧ Kept (fun k => k = B1 ∨ k = B2) wH W)
                  (fun _ _ _ => False)
                  (OwnFrom.and (fun s A A' row hs hg hr => ⟨blk_grown hs.1 hg (fun r e => (hr r e).2), blk_grown hs.2 hg (fun r e => (hr r e).2)⟩) (ownFrom_kept (Nat.le_refl _)))
                  (fun _ s A A' row hs _ _ => hs)
                  ⟨⟨HDG.out, HOG.out⟩, Kept.refl _ _⟩
                case hassign =>
                  intro l x W K hK
                  gi_wp2
                  exact hK
                case hbody =>
                  rintro l pre y W ⟨⟨hb, ho⟩, hk⟩ _
                  obtain ⟨y, hy⟩ := y
                  dsimp only
                  have hkW := HKG.out.trans hk
                  have hsW2 := hk.size
                  obtain ⟨⟨m0, m1, m2, _, _, _⟩, _, bz, bcx⟩ := HBOX.out _ hkW
                  have z0 := bz.cell
                  have c0 := bcx.cell
                  obtain ⟨CM, hCM⟩ : ∃ X, X = (clrF ca co c rk (PM, PO) pre).1 := ⟨_, rfl⟩
                  obtain ⟨CO, hCO⟩ : ∃ X, X = (clrF ca co c rk (PM, PO) pre).2 := ⟨_, rfl⟩
                  have hlM : CM.length = M.length := by rw [hCM, (clrF_length _ _ _ _ _ _).1]; exact hPM
                  have hlO : CO.length = O.length := by rw [hCO, (clrF_length _ _ _ _ _ _).2]; exact hPO
                  rw [← hCM] at hb
                  rw [← hCO] at ho
                  have HSN : Hid (clrF ca co c rk (PM, PO) (pre ++ [⟨y, hy⟩]) = clrStep ca co c rk (CM, CO) y) := by rw [Hid, clrF_snoc, hCM, hCO]
                  clear hCM hCO
                  have hyM : (y + 1) * ca ≤ M.length := by rw [HM.out]; exact Nat.mul_le_mul_right ca hy
                  have hyO : (y + 1) * co ≤ O.length := by rw [HO.out]; exact Nat.mul_le_mul_right co hy
                  have hyM5 := hyM
                  have hyO5 := hyO
                  rw [Nat.add_mul, Nat.one_mul] at hyM5 hyO5
                  obtain ⟨q1, q2, _⟩ := hb (y * ca + c) (by omega)
                  obtain ⟨n, hn⟩ : ∃ n, n = CM.getD (y * ca + c) 0 := ⟨_, rfl⟩
                  rw [← hn] at q1 q2
                  have HB := Lib.hid hb
                  have HO3 := Lib.hid ho
                  have HK3 := Lib.hid hk
                  have HN3 := Lib.hid hn
                  have hM25 : M.length ≤ 256 := by rw [HM.out]; exact Nat.mul_le_mul r16 c16
                  have hO25 : O.length ≤ 256 := by rw [HO.out]; exact Nat.mul_le_mul r16 o16
                  have hB1W : B1 < W.heap.size := by omega
                  have hB2W : B2 < W.heap.size := by omega
                  have hcoB : CO.length ≠ 0 := by
                    have : 1 * 1 ≤ ra * co := Nat.mul_le_mul r1 o1
                    rw [hlO, HO.out]; omega
                  have HKB : ∀ W', Kept (fun k => k = B1 ∨ k = B2) W W' → KeepsOthers W W' ∧ KeepsBox bn W W' := fun W' h =>
                    ⟨keepsOthers_two h (HB.out (y * ca + c) (by omega)).2.1 (HO3.out 0 (by omega)).2.1, h.size, h.block bn (by omega) (by omega)⟩
                  have HKB2 := Lib.hid HKB
                  clear hb ho hk hn HKB bz bcx
                  by_cases hyr : y = rk
                  · have hye : ((y : Int) != (rk : Int)) = false := by rw [hyr]; simp
                    have HE : Hid (clrStep ca co c rk (CM, CO) y = (CM, CO)) := by rw [Hid, clrStep, if_pos hyr]
                    clear hyr
                    gi_wp2
                    have h3 := HKB2.out W (Kept.refl _ _)
                    exact ⟨h3.1, h3.2, ⟨by rw [HSN.out, HE.out]; exact HB.out, by rw [HSN.out, HE.out]; exact HO3.out⟩, HK3.out⟩
                  · have hye : ((y : Int) != (rk : Int)) = true := bne_iff_ne.2 (by omega)
                    by_cases hn0 : n = 0
                    · have hnd : ((n : Int) != 0) = false := by rw [hn0]; rfl
                      have HE : Hid (clrStep ca co c rk (CM, CO) y = (CM, CO)) := by rw [Hid, clrStep, if_neg hyr]; dsimp only; rw [← HN3.out, hn0, addL_none, addL_none]
                      clear hyr hn0
                      gi_wp2
                      have h3 := HKB2.out W (Kept.refl _ _)
                      exact ⟨h3.1, h3.2, ⟨by rw [HSN.out, HE.out]; exact HB.out, by rw [HSN.out, HE.out]; exact HO3.out⟩, HK3.out⟩
                    · have hnd : ((n : Int) != 0) = true := bne_iff_ne.2 (by omega)
                      have HE : Hid (clrStep ca co c rk (CM, CO) y = (addL ca y rk n CM, addL co y rk n CO)) := by rw [Hid, clrStep, if_neg hyr]; dsimp only; rw [← HN3.out]
                      have HLM : Hid (∀ x ∈ CM, x < 256) := by
                        intro x hx
                        obtain ⟨j, hj, rfl⟩ := List.getElem_of_mem hx
                        rw [List.getElem_eq_getD (fallback := 0)]; exact (HB.out j hj).1
                      have HLO : Hid (∀ x ∈ CO, x < 256) := by
                        intro x hx
                        obtain ⟨j, hj, rfl⟩ := List.getElem_of_mem hx
                        rw [List.getElem_eq_getD (fallback := 0)]; exact (HO3.out j hj).1
                      clear hyr hn0
                      gi_wp2
                      refine ⟨trivial, ?_⟩
                      refine (CallsIn.inRound _ (callsIn_wide.2 (row_any (ra : Int) ca rk B1 0 M.length k1 W c16 c1 (by omega) hinr hk1 hk1'))).mono ?_
                      rintro e wI ⟨rfl, hbx⟩
                      have hdI := blk_below HB.out hB1W hbx
                      have HOI := Lib.hid (blk_below HO3.out hB2W hbx)
                      have hsI := hbx.size
                      have HKI := Lib.hid (Kept.of_below (p := fun k => k = B1 ∨ k = B2) hbx)
                      have hcv := row_text (i := rk) (c := ca) (cap := k1 - rk * ca) (BytesV.of_blk (c := k1) hdI (by omega)) (by rw [hlM]; exact hinr)
                      rw [Nat.zero_add] at hcv
                      have HDI := Lib.hid hdI
                      have hrs := rowS_size (bs := CM) (c := ca) (k := rk) (by rw [hlM]; exact hinr)
                      obtain ⟨sr, hsr⟩ : ∃ s, s = rowS CM ca rk := ⟨_, rfl⟩
                      rw [← hsr] at hcv hrs
                      have HIA : Hid (intoL sr n (y * ca) ca CM = addL ca y rk n CM) := by rw [Hid, hsr]; exact intoL_addL HLM.out
                      clear hbx hdI hsr m0 m1 m2 z0 c0 q2
                      gi_wp2
                      refine ⟨trivial, ?_⟩
                      refine (CallsIn.inRound _ (callsIn_wide.2 (into_any B1 (y * ca) ca _ CM sr n wI HDI.out (by omega) (by omega) (by omega) (by omega) (by omega) q1))).mono ?_
                      rintro e wJ ⟨rfl, hdJ, hkJ⟩
                      rw [HIA.out] at hdJ
                      have HDJ := Lib.hid hdJ
                      have HOJ := Lib.hid (blk_keptM HOI.out (by omega) hkJ (by omega))
                      have hsJ := hkJ.size
                      have HKJ := Lib.hid (HKI.out.trans (kept_low (q := fun k => k = B1 ∨ k = B2) hkJ (fun k _ e => Or.inl e)))
                      clear hdJ hkJ HDI HOI HKI hcv HIA
                      have hdW : Below wJ.heap.size wJ wJ.drew := Below.drew (Below.refl _ _)
                      have hrsO := rowS_size (bs := CO) (c := co) (k := rk) (by rw [hlO]; exact hior)
                      obtain ⟨so, hso⟩ : ∃ s, s = rowS CO co rk := ⟨_, rfl⟩
                      rw [← hso] at hrsO
                      have HIO : Hid (intoL so n (y * co) co CO = addL co y rk n CO) := by rw [Hid, hso]; exact intoL_addL HLO.out
                      have HSO := Lib.hid hso
                      clear hso
                      have HS2 : Hid (∀ W', Kept (fun k => k = B1 ∨ k = B2) wJ W' → Three W' (w.heap.size + 1) (.int .i64 (ra : Int)) (.int .i64 (co : Int)) (.slice (some ⟨B2, 0, none⟩) O.length k2) ∧ W'.cell? ⟨w.heap.size + 1 + 1, 0, none⟩ = some (.int .i64 (rk : Int))) := fun W' h => by
                        obtain ⟨_, g2, g3, _⟩ := HBOX.out _ ((hkW.trans HKJ.out).trans h)
                        exact ⟨g2, g3.cell⟩
                      have HOX : Hid (∀ W', Below wJ.heap.size wJ W' → BytesBlk W' B2 CO ∧ B2 < W'.heap.size ∧ BytesBlk W' B1 (addL ca y rk n CM) ∧ B1 < W'.heap.size) := fun W' h => ⟨blk_below HOJ.out (by omega) h, by have := h.size; omega, blk_below HDJ.out (by omega) h, by have := h.size; omega⟩
                      have mixed : Try.prog.follows .mixedOrders = true := by kernel_rfl
                      gi_wp2
                      refine wpIn_region_any mixed (wpAnyIn_of (noDefer_of (by kernel_rfl)) (by omega) (fun _ _ h => h) _ _ _ _ (wpAny_of_held (S := fun W' => Kept (fun k => k = B1 ∨ k = B2) wJ W') _ _ _ _ ?_))
                      have hS0 : Kept (fun k => k = B1 ∨ k = B2) wJ wJ.drew := Kept.drew (Kept.refl _ _)
                      change wpAnyH _ _ _ _ _ 9 _ _ wJ.drew
                      refine wpAnyH_take (i := 0) (v := .agg #[.int .i64 (ra : Int), .int .i64 (co : Int), .slice (some ⟨B2, 0, none⟩) O.length k2]) rfl (by kernel_rfl) (by kernel_rfl) (by kernel_rfl) (fun _ _ _ h => onlyEnd_panic h) (Or.inl ⟨by rfl, fun W' hW' => ?_⟩) hS0 ?_
                      · obtain ⟨⟨n0, n1, n2, _, _, _⟩, z0⟩ := HS2.out _ hW'
                        go_simp
                        try rfl
                      try simp only [Act.put, List.setIfInBounds_toArray, List.set_cons_zero, List.set_cons_succ]
                      refine wpAnyH_take (i := 1) (v := .int .i64 (y : Int)) rfl (by kernel_rfl) (by kernel_rfl) (by kernel_rfl) (fun _ _ _ h => onlyEnd_panic h) (Or.inl ⟨by rfl, fun W' hW' => ?_⟩) hS0 ?_
                      · obtain ⟨⟨n0, n1, n2, _, _, _⟩, z0⟩ := HS2.out _ hW'
                        go_simp
                        try rfl
                      try simp only [Act.put, List.setIfInBounds_toArray, List.set_cons_zero, List.set_cons_succ]
                      refine wpAnyH_take (i := 3) (v := .agg #[.int .i64 (ra : Int), .int .i64 (co : Int), .slice (some ⟨B2, 0, none⟩) O.length k2]) rfl (by kernel_rfl) (by kernel_rfl) (by kernel_rfl) (fun _ _ _ h => onlyEnd_panic h) (Or.inl ⟨by rfl, fun W' hW' => ?_⟩) hS0 ?_
                      · obtain ⟨⟨n0, n1, n2, _, _, _⟩, z0⟩ := HS2.out _ hW'
                        go_simp
                        try rfl
                      try simp only [Act.put, List.setIfInBounds_toArray, List.set_cons_zero, List.set_cons_succ]
                      refine wpAnyH_take (i := 4) (v := .int .i64 (rk : Int)) rfl (by kernel_rfl) (by kernel_rfl) (by kernel_rfl) (fun _ _ _ h => onlyEnd_panic h) (Or.inl ⟨by rfl, fun W' hW' => ?_⟩) hS0 ?_
                      · obtain ⟨⟨n0, n1, n2, _, _, _⟩, z0⟩ := HS2.out _ hW'
                        go_simp
                        try rfl
                      try simp only [Act.put, List.setIfInBounds_toArray, List.set_cons_zero, List.set_cons_succ]
                      refine wpAnyH_take (i := 7) (v := .int .u8 (n : Int)) rfl (by kernel_rfl) (by kernel_rfl) (by kernel_rfl) (fun _ _ _ h => onlyEnd_panic h) (Or.inl ⟨by rfl, fun W' hW' => ?_⟩) hS0 ?_
                      · obtain ⟨⟨n0, n1, n2, _, _, _⟩, z0⟩ := HS2.out _ hW'
                        go_simp
                        try rfl
                      try simp only [Act.put, List.setIfInBounds_toArray, List.set_cons_zero, List.set_cons_succ]
                      refine wpAnyH_ready (rs := [2]) (by kernel_rfl) (by simp) ?_
                      refine AllReadyH.cons rfl (fun K hK => ?_) AllReadyH.nil
                      rw [if_pos (by rfl)]
                      go_simp
                      refine (row_any (ra : Int) co y B2 0 O.length k2 _ o16 o1 (by omega) hyO hk2 hk2').mono ?_
                      rintro e w1 ⟨rfl, hb1⟩
                      have hd1 := hdW.trans (hb1.mono hdW.size)
                      have hS1 : Kept (fun k => k = B1 ∨ k = B2) wJ w1 := Kept.of_below hd1
                      refine hK.out _ _ hS1 (fun hS1 => ?_)
                      clear hK hb1
                      try simp only [Act.put, List.setIfInBounds_toArray, List.set_cons_zero, List.set_cons_succ]
                      refine wpAnyH_ready (rs := [5]) (by kernel_rfl) (by simp) ?_
                      refine AllReadyH.cons rfl (fun K hK => ?_) AllReadyH.nil
                      rw [if_pos (by rfl)]
                      go_simp
                      refine (row_any (ra : Int) co rk B2 0 O.length k2 _ o16 o1 (by omega) hior hk2 hk2').mono ?_
                      rintro e w2 ⟨rfl, hb2⟩
                      have hd2 := hd1.trans (hb2.mono hd1.size)
                      have hS2 : Kept (fun k => k = B1 ∨ k = B2) wJ w2 := Kept.of_below hd2
                      refine hK.out _ _ hS2 (fun hS2 => ?_)
                      clear hK hb2
                      try simp only [Act.put, List.setIfInBounds_toArray, List.set_cons_zero, List.set_cons_succ]
                      obtain ⟨x1, x2, x3, x4⟩ := HOX.out _ hd2
                      have hcv := row_text (i := rk) (c := co) (cap := k2 - rk * co) (BytesV.of_blk (c := k2) x1 x2) (by rw [hlO]; exact hior)
                      rw [Nat.zero_add, ← HSO.out] at hcv
                      refine wpAnyH_ready (rs := [6]) (by kernel_rfl) (by simp) ?_
                      refine AllReadyH.cons rfl (fun K hK => ?_) AllReadyH.nil
                      rw [if_pos (by rfl)]
                      go_simp
                      refine hK.out _ _ hS2 (fun hS2 => ?_)
                      clear hK hcv
                      try simp only [Act.put, List.setIfInBounds_toArray, List.set_cons_zero, List.set_cons_succ]
                      refine wpAnyH_ready (rs := [8]) (by kernel_rfl) (by simp) ?_
                      refine AllReadyH.cons rfl (fun K hK => ?_) AllReadyH.nil
                      rw [if_pos (by rfl)]
                      go_simp
                      refine (into_any B2 (y * co) co _ CO so n _ x1 x2 (by omega) (by omega) (by omega) (by omega) q1).mono ?_
                      rintro e w3 ⟨rfl, hdd, hkk⟩
                      have hS3 : Kept (fun k => k = B1 ∨ k = B2) wJ w3 := hS2.trans (kept_low hkk (fun k _ e => Or.inr e))
                      refine hK.out _ _ hS3 (fun hS3 => ?_)
                      clear hK
                      try simp only [Act.put, List.setIfInBounds_toArray, List.set_cons_zero, List.set_cons_succ]
                      refine wpAnyH_done (by kernel_rfl) ⟨rfl, ?_⟩ _
                      rw [HIO.out] at hdd
                      have hm3 := blk_keptM x3 x4 hkk (by omega)
                      have h3 := HKB2.out w3 (HKJ.out.trans hS3)
                      have HF := Lib.hid (And.intro hdd hm3)
                      have HF3 := Lib.hid h3
                      have HKF3 := Lib.hid (HK3.out.trans (HKJ.out.trans hS3))
                      clear hS0 hS1 hS2 hS3 hd1 hd2 hdW hdd hkk hm3 h3 x1 x2 x3 x4 HS2 HOX
                      gi_wp2
                      exact ⟨HF3.out.1, HF3.out.2, ⟨by rw [HSN.out, HE.out]; exact HF.out.2, by rw [HSN.out, HE.out]; exact HF.out.1⟩, HKF3.out⟩
                case hdone =>
                  rintro D xs W hD rfl ⟨⟨hb, ho⟩, hk⟩ hDK
                  rw [clrF_all] at hb ho
                  have hkW := HKG.out.trans hk
                  obtain ⟨bm1, bo1, bz, _⟩ := HBOX.out _ hkW
                  have z0 := bz.cell
                  have zf := bz.frozen
                  have hK3 : Kept (fun j => j = B1 ∨ j = B2 ∨ j = w.heap.size + 1 + 1) VL W := kept_low hkW (fun k _ e => by omega)
                  have hsD := HKL.out.size
                  have hsE2 := hkW.size
                  have hsF2 := hk.size
                  have hHG := HKG.out.size
                  have hWS2 : B1 < W.heap.size ∧ B2 < W.heap.size := by omega
                  have HSF : Hid (Solv (W.setCell ⟨w.heap.size + 1 + 1, 0, none⟩ (.int .i64 ((rk : Int) + 1))) w.heap.size B1 B2 ra ca co M.length O.length k1 k2 (elim ra ca co M O (c + 1))) := by
                    rw [HN.out]
                    exact ⟨blk_cell hb (by dsimp only; omega), blk_cell ho (by dsimp only; omega), by dsimp only; rw [show ((rk + 1 : Nat) : Int) = (rk : Int) + 1 by omega]; exact Boxed.set _ bz, three_cell bm1 (by dsimp only; omega), three_cell bo1 (by dsimp only; omega)⟩
                  have hKF := HKL.out.trans (hK3.setCell (d := ⟨w.heap.size + 1 + 1, 0, none⟩) (fun _ => Or.inr (Or.inr rfl)) (.int .i64 ((rk : Int) + 1)))
                  have HKF := Lib.hid (HKW.out.trans hKF)
                  have HMF := Lib.hid ((HMKS.out.kept hKF (fun D hD e => by omega)).cons HMKS.out (D := D) (by omega) (by omega) (by rw [Below.heap_setCell _ _ _ _ (by dsimp only; omega)]; exact hDK))
                  clear hb ho hk hkW bm1 bo1 bz hK3 hKF hDK
                  go_wp2_with fail
                  refine ⟨⟨_, _, _, _, _, _, _, _, _, _, _, _, _, _, _, _, _, _, _, _, _, _, _, _, _, _, _, _, _, _, _, _, _, _, _, _, _, _, _, _, _, _, _, _, _, _, _, _, _, _, _, _, _, _, _, _, _, _, _, _, _, _, _, _, _, _, _, _, _, _, _, _, _, _, _, _, _, _, _, _, _, _, _, _, _, _, _, ?rel, rfl⟩, ?measure⟩
                  case rel => exact ⟨c + 1, by go_num, by omega, HSF, HKF, HMF⟩
                  case measure => simp [intOf]; omega
                case hstop =>
                  rintro D c pre W _ _ h _
                  exact h.elim
        · have hke : i = ra := by omega
          have hpf : findP Mc ca c rk (ra - rk) = ra := by rw [hfp, hke, Nat.sub_self]; rfl
          have HN : Hid (elim ra ca co M O (c + 1) = (Mc, Oc, rk)) := by rw [Hid, HES.out, colStep]; dsimp only; rw [hpf, if_neg (Nat.lt_irrefl ra)]
          have HKN := Lib.hid (HKC.out.trans (Kept.of_below (p := fun j => j = B1 ∨ j = B2 ∨ j = w.heap.size + 1 + 1) HB.out))
          clear hpf hfp HB
          go_wp2_with fail
          refine ⟨⟨_, _, _, _, _, _, _, _, _, _, _, _, _, _, _, _, _, _, _, _, _, _, _, _, _, _, _, _, _, _, _, _, _, _, _, _, _, _, _, _, _, _, _, _, _, _, _, _, _, _, _, _, _, _, _, _, _, _, _, _, _, _, _, _, _, _, _, _, _, _, _, _, _, _, _, _, _, _, _, _, _, _, _, _, _, _, _, ?rel, rfl⟩, ?measure⟩
          case rel => exact ⟨c + 1, by go_num, by omega, by rw [HN.out]; exact HSV, Lib.hid (HKW.out.trans HKN.out), Lib.hid (HMKS.out.kept HKN.out (fun D hD e => by omega))⟩
          case measure => simp [intOf]; omega
    · have hke : c = ca := by omega
      have H1 := HS.out
      rw [hke] at H1
      have z0 := H1.r.cell
      have HX := Lib.hid H1
      have HKX := Lib.hid ((Kept.of_below (p := fun j => j = B1 ∨ j = B2 ∨ j = w.heap.size + 1 + 1) HBE.out).trans HKW.out)
      clear H1 hke
      go_wp2_with fail
      rw [Exit.noGoto_ret]
      have hsW := HKW.out.size
      rw [HSZ.out] at hsW
      refine HMKS.out.leave (fun W' hb => ?_)
      have hk2 : Kept (fun j => w.heap.size + 1 + 1 + 1 ≤ j) wr W' := ⟨hb.os, hb.tape, hb.output, hb.size, fun k hk hp => hb.block k (by omega)⟩
      exact ⟨_, results_tmp rfl _ _ _, rfl, blk_keptM HX.out.a (by omega) hk2 (by omega), blk_keptM HX.out.b (by omega) hk2 (by omega),
        kept_low (q := fun j => j = B1 ∨ j = B2) ((kept_low (q := fun j => j = B1 ∨ j = B2 ∨ w.heap.size + 1 + 1 ≤ j) HKX.out (fun k _ e => by omega)).trans (kept_low hk2 (fun k _ e => by omega))) (fun k hk e => by omega)⟩
end Go.Proofs.Ytijcmdcjjcemfaa
