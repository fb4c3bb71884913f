/- code.Rebuild, walked. -/
import Derived.Test.YtijcmdcjjcemfaaPkA20
import Derived.Test.YtijcmdcjjcemfaaPkA14
import Derived.OrdersHeld
import Derived.Deep.RegionHeld
import Derived.Deep.RegionHeld3
import Derived.Deep.CutBlock
namespace Go.Proofs.Ytijcmdcjjcemfaa
open Go.ChangeShapes Go.WideShapes Go.ChangeAt Go.RowKit Go.Joins
set_option linter.unusedVariables false
set_option linter.unusedSimpArgs false

theorem lit_below {W V : World} {b : Nat} {x : Value} (h : ∀ j u, [x][j]? = some u → W.cell? ((⟨b, 0, none⟩ : Addr).add j) = some u) (hb : Below W.heap.size W V) (hlt : b < W.heap.size) :
    ∀ j u, [x][j]? = some u → V.cell? ((⟨b, 0, none⟩ : Addr).add j) = some u := by
  intro j u hu
  cases j with
  | zero => rw [hb.cell (p := (⟨b, 0, none⟩ : Addr).add 0) (by simp [Addr.add]; exact hlt)]; exact h 0 u hu
  | succ j => simp at hu
theorem lit_grown {W V : World} {row : Option Nat} {b : Nat} {x : Value} (h : ∀ j u, [x][j]? = some u → W.cell? ((⟨b, 0, none⟩ : Addr).add j) = some u) (hg : W.grownBy V row) (hlt : b < W.heap.size) (hne : some b ≠ row) :
    ∀ j u, [x][j]? = some u → V.cell? ((⟨b, 0, none⟩ : Addr).add j) = some u := by
  intro j u hu
  cases j with
  | zero => exact hg.cell (h 0 u hu) (by simp [Addr.add]; exact hne)
  | succ j => simp at hu

set_option maxRecDepth 100000 in
set_option maxHeartbeats 2000000 in
theorem rebuild_no (k m z : Int) (A B : Option Addr) (nl nb cl cb : Nat) (w : World) (h : mayB (k, m, z) = false ∨ (nl : Int) ≠ k + m ∨ nb ≠ nl) :
    Calls Try.prog 42 #[.agg #[.int .i64 k, .int .i64 m, .int .i64 z], .slice A nl cl, .slice B nb cb] w fun e w' => e = .returned (.tuple #[.slice none 0 0, .int .i64 1]) ∧ Below w.heap.size w w' := by
  obtain ⟨o, ho⟩ : ∃ o, o = (Obj.cells #[.int .i64 k, .int .i64 m, .int .i64 z] 29) := ⟨_, rfl⟩
  have tA := Three.new w (.int .i64 k) (.int .i64 m) (.int .i64 z) 29
  have hbe := (Below.refl w.heap.size w).alloc (Nat.le_refl _) (.cells #[.int .i64 k, .int .i64 m, .int .i64 z] 29)
  rw [← ho] at tA hbe
  have HB := Lib.hid hbe
  have HT := Lib.hid tA
  obtain ⟨a0, a1, a2, _, _, _⟩ := tA
  rw [ho] at a0 a1 a2
  clear hbe
  obtain ⟨mb, hmb⟩ : ∃ mb, mb = mayB (k, m, z) := ⟨_, rfl⟩
  rw [← hmb] at h
  have HMB := Lib.hid hmb.symm
  have HH := Lib.hid h
  clear hmb h
  go_enter Try.func42, Try.ntmps42
  go_wp2_with fail
  rw [← ho]
  refine (may_any k m z _).mono ?_
  rintro e w1 ⟨rfl, hb1⟩
  rw [HMB.out]
  have HB1 := Lib.hid (HB.out.trans (hb1.mono HB.out.size))
  obtain ⟨x0, x1, x2, _, _, _⟩ := HT.out.below hb1
  clear hb1 a0 a1 a2 ho HB HT
  cases mb
  · go_wp2_with fail
    go_ret2
    exact ⟨rfl, HB1.out⟩
  · obtain ⟨K, M, rfl, rfl, k1, k8, m6, z1, z2⟩ := mayB_yes HMB.out
    obtain ⟨n, hn⟩ : ∃ n, n = K + M := ⟨_, rfl⟩
    have w1 : IntKind.i64.wrap ((K : Int) + (M : Int)) = (n : Int) := by rw [IntWalk.i64_in _ (by omega)]; omega
    have HN : Hid (nl ≠ n ∨ nb ≠ nl) := by
      rcases HH.out with h | h | h
      · simp at h
      · left; omega
      · right; exact h
    clear hn HH
    by_cases h1 : nl = n
    · subst h1
      have hne : ¬ nb = nl := by rcases HN.out with h | h; exact absurd rfl h; exact h
      have hd2 : ((nb : Int) == (nl : Int)) = false := by simp; omega
      have hd3 : (nb == nl) = false := by simp; omega
      have hd4 : decide (nb = nl) = false := decide_eq_false hne
      go_wp2_with fail
      go_ret2
      exact ⟨rfl, HB1.out⟩
    · have hd1 : ((nl : Int) == (n : Int)) = false := by simp; omega
      have hd3 : (nl == n) = false := by simp; omega
      have hd4 : decide (nl = n) = false := decide_eq_false h1
      go_wp2_with fail
      go_ret2
      exact ⟨rfl, HB1.out⟩

set_option maxRecDepth 100000 in
set_option maxHeartbeats 8000000 in
theorem rebuild_any (K M Z : Nat) (vl vb : Value) (l : List ByteArray) (bs : List Bool) (w : World) (k1 : 1 ≤ K) (k8 : K ≤ 8) (m6 : M ≤ 6) (z1 : 1 ≤ Z) (z2 : Z ≤ 120) (hl : Strs6 w vl l) (hb : BoolsIn w vb bs)
    (hll : l.length = K + M) (hbl : bs.length = K + M) (hsz : ∀ i, bs.getD i false = true → (l.getD i ByteArray.empty).size = Z) :
    Calls Try.prog 42 #[.agg #[.int .i64 (K : Int), .int .i64 (M : Int), .int .i64 (Z : Int)], vl, vb] w fun e w' =>
      ∃ r, e = .returned (.tuple #[r, .int .i64 (rebE (K + M) K bs)]) ∧ w'.ownsRow w.heap.size 9 1 r (rebL (K + M) K Z bs l).length ((rebL (K + M) K Z bs l).map Value.string) ∧ Below w.heap.size w w' := by
  obtain ⟨i0, hi, hz0, hz1, hz2⟩ := info_parts infoI64
  obtain ⟨j0, hj, hy0, hy1, hy2⟩ := info_parts infoStr6
  obtain ⟨n, hn⟩ : ∃ n, n = K + M := ⟨_, rfl⟩
  rw [← hn] at hll hbl ⊢
  have w1 : IntKind.i64.wrap ((K : Int) + (M : Int)) = (n : Int) := by rw [IntWalk.i64_in _ (by omega)]; omega
  have hKn : K ≤ n := by omega
  have hn14 : n ≤ 14 := by omega
  have HNN := Lib.hid hn
  obtain ⟨A, cl, rfl⟩ := hl.shape
  obtain ⟨pb, cb, rfl, hbs⟩ := hb
  have HMB : Hid (mayB ((K : Int), (M : Int), (Z : Int)) = true) := decide_eq_true (by dsimp only; omega)
  obtain ⟨o, ho⟩ : ∃ o, o = (Obj.cells #[.int .i64 (K : Int), .int .i64 (M : Int), .int .i64 (Z : Int)] 29) := ⟨_, rfl⟩
  have tA := Three.new w (.int .i64 (K : Int)) (.int .i64 (M : Int)) (.int .i64 (Z : Int)) 29
  have hbe := (Below.refl w.heap.size w).alloc (Nat.le_refl _) (.cells #[.int .i64 (K : Int), .int .i64 (M : Int), .int .i64 (Z : Int)] 29)
  rw [← ho] at tA hbe
  have HB := Lib.hid hbe
  have HT := Lib.hid tA
  have HL := Lib.hid (hl.below hbe)
  have HBS := Lib.hid (hbs.below hbe)
  have HSZ := Lib.hid hsz
  have HLL := Lib.hid hll
  have HBL := Lib.hid hbl
  rw [hll, hbl]
  obtain ⟨a0, a1, a2, _, _, _⟩ := tA
  rw [ho] at a0 a1 a2
  clear hbe hl hbs hsz hll hbl hn
  go_enter Try.func42, Try.ntmps42
  go_wp2_with fail
  rw [← ho]
  refine (may_any (K : Int) (M : Int) (Z : Int) _).mono ?_
  rintro e w1' ⟨rfl, hb1⟩
  rw [HMB.out]
  have HB1 := Lib.hid (HB.out.trans (hb1.mono HB.out.size))
  have HT1 := Lib.hid (HT.out.below hb1)
  have HL1 := Lib.hid (HL.out.below hb1)
  have HBS1 := Lib.hid (HBS.out.below hb1)
  obtain ⟨W0, rfl⟩ : ∃ W0 : World, W0 = w1' := ⟨_, rfl⟩
  obtain ⟨x0, x1, x2, _, _, _⟩ := HT1.out
  clear hb1 a0 a1 a2 ho HB HT HL HBS
  have hd1 : ((n : Int) == (n : Int)) = true := by simp
  go_upto_block 0 with fail
  clear x0 x1 x2
  go_wp2_with fail
  go_loopw [8, 9, 39] (fun hv gv ii wr => ∃ (i : Nat) (Hl : List Int) (hw gw : Value), hw = hv ∧ gw = gv ∧ ii = .int .i64 i ∧ i ≤ n ∧ Hid (Hl = haveN bs K i) ∧ Hid (wr.ownsRow W0.heap.size 3 1 hw Hl.length (i64s Hl)) ∧ Hid (wr.ownsRow W0.heap.size 9 1 gw Hl.length ((givenL Hl l).map Value.string)) ∧ Hid (Below W0.heap.size W0 wr)) (fun _ _ ii _ => n - (intOf ii).toNat)
  case atStart => exact ⟨0, [], _, _, rfl, rfl, rfl, by omega, rfl, World.ownsRow_nil _ _ _ _, World.ownsRow_nil _ _ _ _, Lib.hid (Below.refl _ _)⟩
  case round =>
    obtain ⟨i, Hl, hw, gw, rfl, rfl, rfl, hin, HHN, hov, hog, HBr⟩ := hrel
    have hHK : Hl.length ≤ K := by rw [HHN.out]; exact haveN_le bs K i
    obtain ⟨Ah, ch, rfl⟩ := own_shape hov.out
    obtain ⟨Ag, cg, rfl⟩ := own_shape hog.out
    have T1r := Lib.hid (HT1.out.below HBr.out)
    by_cases hlt : i < n
    · have hid1 : decide ((i : Int) < (n : Int)) = true := by simp; omega
      have q0 : (0 : Int) ≤ (i : Int) := by omega
      have q1 : (i : Int) < (n : Int) := by omega
      obtain ⟨bb, ob, hpb, hbb, hbcell0⟩ := HBS1.out.2 i (by rw [HBL.out]; exact hlt)
      subst hpb
      dsimp only at hbcell0
      have hbcell := below_celllt hbcell0 hbb HBr.out
      obtain ⟨b', off, hA, hb'l, hcell0⟩ := HL1.out.at_ (k := i) (by rw [HLL.out]; exact hlt)
      subst hA
      have HS : Hid (l.getD i ByteArray.empty = l[i]'(by rw [HLL.out]; exact hlt)) := by
        rw [Hid, ← List.getElem_eq_getD (h := by rw [HLL.out]; exact hlt)]
      have HZ : Hid (bs.getD i false = true → (l[i]'(by rw [HLL.out]; exact hlt)).size = Z) := fun h => by rw [← HS.out]; exact HSZ.out i h
      generalize l[i]'(by rw [HLL.out]; exact hlt) = s at *
      generalize hbi : bs.getD i false = bi at *
      have HBI := Lib.hid hbi
      clear hbi
      have HLW : Hid (∀ W', Below W0.heap.size W0 W' → W'.cell? ⟨b', off + i, none⟩ = some (.string s)) := fun W' h => below_celllt hcell0 hb'l h
      have HLC : Hid (∀ W', Below wr.heap.size wr W' → W'.cell? ⟨b', off + i, none⟩ = some (.string s)) := fun W' h => HLW.out W' (HBr.out.trans (h.mono HBr.out.size))
      clear hcell0 hbcell0
      cases bi
      · have HHN' : Hid (Hl = haveN bs K (i + 1)) := by rw [Hid, haveN_no HBI.out]; exact HHN.out
        go_upto_region 8 with fail
        clear hbcell
        refine wp_region_held (S := fun W' => Below wr.heap.size wr W') (by kernel_rfl) ?_
        change wpAnyH _ _ _ _ _ 11 _ _ wr.drew
        have hcum := (Below.refl wr.heap.size wr).drew
        generalize wr.drew = V0 at *
        refine wpAnyH_take (i := 0) (oi := { dst := some 44, op := Op.move (Operand.tmp 11), type := 4, pos := "code.go:76", after := #[], guard := none }) (v := ?_) rfl (by kernel_rfl) (by kernel_rfl) (by kernel_rfl) (fun _ _ _ h => h) (Or.inl ⟨by rfl, fun W' hW' => ?_⟩) hcum ?_
        rotate_left 1
        · go_simp
          try rfl
        try simp only [Act.put, List.setIfInBounds_toArray, List.set_cons_zero, List.set_cons_succ]
        refine wpAnyH_take (i := 1) (oi := { dst := some 45, op := Op.move (Operand.tmp 44), type := 4, pos := "code.go:76", after := #[{ on := 0, ground := Ground.data }], guard := none }) (v := ?_) rfl (by kernel_rfl) (by kernel_rfl) (by kernel_rfl) (fun _ _ _ h => h) (Or.inl ⟨by rfl, fun W' hW' => ?_⟩) hcum ?_
        rotate_left 1
        · go_simp
          try rfl
        try simp only [Act.put, List.setIfInBounds_toArray, List.set_cons_zero, List.set_cons_succ]
        refine wpAnyH_take (i := 2) (oi := { dst := some 46, op := Op.move (Operand.tmp 1), type := 23, pos := "code.go:76", after := #[{ on := 1, ground := Ground.guard }], guard := some (1, true) }) (v := undef) rfl (by kernel_rfl) (by kernel_rfl) (by kernel_rfl) (fun _ _ _ h => h) (Or.inr ⟨by rfl, rfl⟩) hcum ?_
        try simp only [Act.put, List.setIfInBounds_toArray, List.set_cons_zero, List.set_cons_succ]
        refine wpAnyH_take (i := 3) (oi := { dst := some 47, op := Op.move (Operand.tmp 10), type := 3, pos := "code.go:76", after := #[{ on := 1, ground := Ground.guard }], guard := some (1, true) }) (v := undef) rfl (by kernel_rfl) (by kernel_rfl) (by kernel_rfl) (fun _ _ _ h => h) (Or.inr ⟨by rfl, rfl⟩) hcum ?_
        try simp only [Act.put, List.setIfInBounds_toArray, List.set_cons_zero, List.set_cons_succ]
        refine wpAnyH_take (i := 4) (oi := { dst := some 48, op := Op.indexAddr 23 (Operand.tmp 46) (Operand.tmp 47), type := 0, pos := "code.go:76", after := #[{ on := 2, ground := Ground.data }, { on := 3, ground := Ground.data }, { on := 1, ground := Ground.guard }], guard := some (1, true) }) (v := undef) rfl (by kernel_rfl) (by kernel_rfl) (by kernel_rfl) (fun _ _ _ h => h) (Or.inr ⟨by rfl, rfl⟩) hcum ?_
        try simp only [Act.put, List.setIfInBounds_toArray, List.set_cons_zero, List.set_cons_succ]
        refine wpAnyH_take (i := 5) (oi := { dst := some 49, op := Op.load 9 (Operand.tmp 48), type := 9, pos := "code.go:76", after := #[{ on := 4, ground := Ground.data }, { on := 1, ground := Ground.guard }], guard := some (1, true) }) (v := undef) rfl (by kernel_rfl) (by kernel_rfl) (by kernel_rfl) (fun _ _ _ h => h) (Or.inr ⟨by rfl, rfl⟩) hcum ?_
        try simp only [Act.put, List.setIfInBounds_toArray, List.set_cons_zero, List.set_cons_succ]
        refine wpAnyH_take (i := 6) (oi := { dst := some 50, op := Op.call { callee := Callee.builtin Builtin.len, args := #[Operand.tmp 49], argTypes := #[9] }, type := 3, pos := "code.go:76", after := #[{ on := 5, ground := Ground.data }, { on := 1, ground := Ground.guard }], guard := some (1, true) }) (v := undef) rfl (by kernel_rfl) (by kernel_rfl) (by kernel_rfl) (fun _ _ _ h => h) (Or.inr ⟨by rfl, rfl⟩) hcum ?_
        try simp only [Act.put, List.setIfInBounds_toArray, List.set_cons_zero, List.set_cons_succ]
        refine wpAnyH_take (i := 7) (oi := { dst := some 51, op := Op.fieldAddr 29 (Operand.tmp 3) 2, type := 0, pos := "code.go:76", after := #[{ on := 1, ground := Ground.guard }], guard := some (1, true) }) (v := undef) rfl (by kernel_rfl) (by kernel_rfl) (by kernel_rfl) (fun _ _ _ h => h) (Or.inr ⟨by rfl, rfl⟩) hcum ?_
        try simp only [Act.put, List.setIfInBounds_toArray, List.set_cons_zero, List.set_cons_succ]
        refine wpAnyH_take (i := 8) (oi := { dst := some 52, op := Op.load 3 (Operand.tmp 51), type := 3, pos := "code.go:76", after := #[{ on := 7, ground := Ground.data }, { on := 1, ground := Ground.guard }], guard := some (1, true) }) (v := undef) rfl (by kernel_rfl) (by kernel_rfl) (by kernel_rfl) (fun _ _ _ h => h) (Or.inr ⟨by rfl, rfl⟩) hcum ?_
        try simp only [Act.put, List.setIfInBounds_toArray, List.set_cons_zero, List.set_cons_succ]
        refine wpAnyH_take (i := 9) (oi := { dst := some 53, op := Op.binOp BinOp.neq 3 (Operand.tmp 50) (Operand.tmp 52) 3, type := 4, pos := "code.go:76", after := #[{ on := 6, ground := Ground.data }, { on := 8, ground := Ground.data }, { on := 1, ground := Ground.guard }], guard := some (1, true) }) (v := undef) rfl (by kernel_rfl) (by kernel_rfl) (by kernel_rfl) (fun _ _ _ h => h) (Or.inr ⟨by rfl, rfl⟩) hcum ?_
        try simp only [Act.put, List.setIfInBounds_toArray, List.set_cons_zero, List.set_cons_succ]
        refine wpAnyH_take (i := 10) (oi := { dst := some 54, op := Op.pick (Operand.tmp 45) (Operand.tmp 53) (Operand.const (Value.bool false)), type := 4, pos := "code.go:76", after := #[{ on := 1, ground := Ground.data }, { on := 9, ground := Ground.data }], guard := none }) (v := ?_) rfl (by kernel_rfl) (by kernel_rfl) (by kernel_rfl) (fun _ _ _ h => h) (Or.inl ⟨by rfl, fun W' hW' => ?_⟩) hcum ?_
        rotate_left 1
        · go_simp
          try rfl
        try simp only [Act.put, List.setIfInBounds_toArray, List.set_cons_zero, List.set_cons_succ]
        refine wpAnyH_done (by kernel_rfl) ?_ _
        obtain ⟨x0, x1, x2, _, _, _⟩ := T1r.out.below hcum
        have HBn := Lib.hid (HBr.out.trans (hcum.mono HBr.out.size))
        have HOV := Lib.hid (own_below hov.out hcum)
        have HOG := Lib.hid (own_below hog.out hcum)
        go_wp2_with fail
        go_roundw
        case rel => exact ⟨i + 1, Hl, _, _, rfl, rfl, by go_num, by omega, HHN', HOV, HOG, HBn⟩
        case measure => simp [intOf]; omega
      · have hz : s.size = Z := HZ.out rfl
        have hq : ((s.size : Int) == (Z : Int)) = true := by simp [hz]
        clear hz
        by_cases hK : Hl.length < K
        · have hd : decide ((Hl.length : Int) < (K : Int)) = true := by simp; omega
          have HHN' : Hid (Hl ++ [(i : Int)] = haveN bs K (i + 1)) := by
            have h := HHN.out
            rw [Hid, haveN_yes HBI.out (by rw [← h]; exact hK), ← h]
          go_upto_region 8 with fail
          clear hbcell
          refine wp_region_held (S := fun W' => Below wr.heap.size wr W') (by kernel_rfl) ?_
          change wpAnyH _ _ _ _ _ 11 _ _ wr.drew
          have hcum := (Below.refl wr.heap.size wr).drew
          generalize wr.drew = V0 at *
          refine wpAnyH_take (i := 0) (oi := { dst := some 44, op := Op.move (Operand.tmp 11), type := 4, pos := "code.go:76", after := #[], guard := none }) (v := ?_) rfl (by kernel_rfl) (by kernel_rfl) (by kernel_rfl) (fun _ _ _ h => h) (Or.inl ⟨by rfl, fun W' hW' => ?_⟩) hcum ?_
          rotate_left 1
          · go_simp
            try rfl
          try simp only [Act.put, List.setIfInBounds_toArray, List.set_cons_zero, List.set_cons_succ]
          refine wpAnyH_take (i := 1) (oi := { dst := some 45, op := Op.move (Operand.tmp 44), type := 4, pos := "code.go:76", after := #[{ on := 0, ground := Ground.data }], guard := none }) (v := ?_) rfl (by kernel_rfl) (by kernel_rfl) (by kernel_rfl) (fun _ _ _ h => h) (Or.inl ⟨by rfl, fun W' hW' => ?_⟩) hcum ?_
          rotate_left 1
          · go_simp
            try rfl
          try simp only [Act.put, List.setIfInBounds_toArray, List.set_cons_zero, List.set_cons_succ]
          refine wpAnyH_take (i := 2) (oi := { dst := some 46, op := Op.move (Operand.tmp 1), type := 23, pos := "code.go:76", after := #[{ on := 1, ground := Ground.guard }], guard := some (1, true) }) (v := ?_) rfl (by kernel_rfl) (by kernel_rfl) (by kernel_rfl) (fun _ _ _ h => h) (Or.inl ⟨by rfl, fun W' hW' => ?_⟩) hcum ?_
          rotate_left 1
          · go_simp
            try rfl
          try simp only [Act.put, List.setIfInBounds_toArray, List.set_cons_zero, List.set_cons_succ]
          refine wpAnyH_take (i := 3) (oi := { dst := some 47, op := Op.move (Operand.tmp 10), type := 3, pos := "code.go:76", after := #[{ on := 1, ground := Ground.guard }], guard := some (1, true) }) (v := ?_) rfl (by kernel_rfl) (by kernel_rfl) (by kernel_rfl) (fun _ _ _ h => h) (Or.inl ⟨by rfl, fun W' hW' => ?_⟩) hcum ?_
          rotate_left 1
          · go_simp
            try rfl
          try simp only [Act.put, List.setIfInBounds_toArray, List.set_cons_zero, List.set_cons_succ]
          refine wpAnyH_take (i := 4) (oi := { dst := some 48, op := Op.indexAddr 23 (Operand.tmp 46) (Operand.tmp 47), type := 0, pos := "code.go:76", after := #[{ on := 2, ground := Ground.data }, { on := 3, ground := Ground.data }, { on := 1, ground := Ground.guard }], guard := some (1, true) }) (v := ?_) rfl (by kernel_rfl) (by kernel_rfl) (by kernel_rfl) (fun _ _ _ h => h) (Or.inl ⟨by rfl, fun W' hW' => ?_⟩) hcum ?_
          rotate_left 1
          · go_simp
            try rfl
          try simp only [Act.put, List.setIfInBounds_toArray, List.set_cons_zero, List.set_cons_succ]
          refine wpAnyH_take (i := 5) (oi := { dst := some 49, op := Op.load 9 (Operand.tmp 48), type := 9, pos := "code.go:76", after := #[{ on := 4, ground := Ground.data }, { on := 1, ground := Ground.guard }], guard := some (1, true) }) (v := ?_) rfl (by kernel_rfl) (by kernel_rfl) (by kernel_rfl) (fun _ _ _ h => h) (Or.inl ⟨by rfl, fun W' hW' => ?_⟩) hcum ?_
          rotate_left 1
          · (obtain ⟨x0, x1, x2, _, _, _⟩ := T1r.out.below hW'; have hlc := HLC.out _ hW'; go_simp)
            try rfl
          try simp only [Act.put, List.setIfInBounds_toArray, List.set_cons_zero, List.set_cons_succ]
          refine wpAnyH_take (i := 6) (oi := { dst := some 50, op := Op.call { callee := Callee.builtin Builtin.len, args := #[Operand.tmp 49], argTypes := #[9] }, type := 3, pos := "code.go:76", after := #[{ on := 5, ground := Ground.data }, { on := 1, ground := Ground.guard }], guard := some (1, true) }) (v := ?_) rfl (by kernel_rfl) (by kernel_rfl) (by kernel_rfl) (fun _ _ _ h => h) (Or.inl ⟨by rfl, fun W' hW' => ?_⟩) hcum ?_
          rotate_left 1
          · go_simp
            try rfl
          try simp only [Act.put, List.setIfInBounds_toArray, List.set_cons_zero, List.set_cons_succ]
          refine wpAnyH_take (i := 7) (oi := { dst := some 51, op := Op.fieldAddr 29 (Operand.tmp 3) 2, type := 0, pos := "code.go:76", after := #[{ on := 1, ground := Ground.guard }], guard := some (1, true) }) (v := ?_) rfl (by kernel_rfl) (by kernel_rfl) (by kernel_rfl) (fun _ _ _ h => h) (Or.inl ⟨by rfl, fun W' hW' => ?_⟩) hcum ?_
          rotate_left 1
          · go_simp
            try rfl
          try simp only [Act.put, List.setIfInBounds_toArray, List.set_cons_zero, List.set_cons_succ]
          refine wpAnyH_take (i := 8) (oi := { dst := some 52, op := Op.load 3 (Operand.tmp 51), type := 3, pos := "code.go:76", after := #[{ on := 7, ground := Ground.data }, { on := 1, ground := Ground.guard }], guard := some (1, true) }) (v := ?_) rfl (by kernel_rfl) (by kernel_rfl) (by kernel_rfl) (fun _ _ _ h => h) (Or.inl ⟨by rfl, fun W' hW' => ?_⟩) hcum ?_
          rotate_left 1
          · (obtain ⟨x0, x1, x2, _, _, _⟩ := T1r.out.below hW'; have hlc := HLC.out _ hW'; go_simp)
            try rfl
          try simp only [Act.put, List.setIfInBounds_toArray, List.set_cons_zero, List.set_cons_succ]
          refine wpAnyH_take (i := 9) (oi := { dst := some 53, op := Op.binOp BinOp.neq 3 (Operand.tmp 50) (Operand.tmp 52) 3, type := 4, pos := "code.go:76", after := #[{ on := 6, ground := Ground.data }, { on := 8, ground := Ground.data }, { on := 1, ground := Ground.guard }], guard := some (1, true) }) (v := ?_) rfl (by kernel_rfl) (by kernel_rfl) (by kernel_rfl) (fun _ _ _ h => h) (Or.inl ⟨by rfl, fun W' hW' => ?_⟩) hcum ?_
          rotate_left 1
          · go_simp
            try rfl
          try simp only [Act.put, List.setIfInBounds_toArray, List.set_cons_zero, List.set_cons_succ]
          refine wpAnyH_take (i := 10) (oi := { dst := some 54, op := Op.pick (Operand.tmp 45) (Operand.tmp 53) (Operand.const (Value.bool false)), type := 4, pos := "code.go:76", after := #[{ on := 1, ground := Ground.data }, { on := 9, ground := Ground.data }], guard := none }) (v := ?_) rfl (by kernel_rfl) (by kernel_rfl) (by kernel_rfl) (fun _ _ _ h => h) (Or.inl ⟨by rfl, fun W' hW' => ?_⟩) hcum ?_
          rotate_left 1
          · go_simp
            try rfl
          try simp only [Act.put, List.setIfInBounds_toArray, List.set_cons_zero, List.set_cons_succ]
          refine wpAnyH_done (by kernel_rfl) ?_ _
          obtain ⟨wq, rfl⟩ : ∃ wq : World, wq = V0 := ⟨_, rfl⟩
          have HBq := Lib.hid (HBr.out.trans (hcum.mono HBr.out.size))
          have hovq := Lib.hid (own_below hov.out hcum)
          have hogq := Lib.hid (own_below hog.out hcum)
          obtain ⟨x0, x1, x2, _, _, _⟩ := T1r.out.below hcum
          clear hcum hov hog
          go_upto_region 11 with fail
          clear x0 x1 x2
          refine wp_region_held (S := fun W' => Below W0.heap.size W0 W') (by kernel_rfl) ?_
          change wpAnyH _ _ _ _ _ 13 _ _ wq.drew
          have hcum := HBq.out.drew
          have hov := hovq.out.drew
          have hog := hogq.out.drew
          generalize wq.drew = V0 at *
          refine wpAnyH_take (i := 0) (oi := { dst := some 63, op := Op.move (Operand.tmp 8), type := 34, pos := "code.go:80", after := #[], guard := none }) (v := ?_) rfl (by kernel_rfl) (by kernel_rfl) (by kernel_rfl) (fun _ _ _ h => h) (Or.inl ⟨by rfl, fun W' hW' => ?_⟩) hcum ?_
          rotate_left 1
          · go_simp
            try rfl
          try simp only [Act.put, List.setIfInBounds_toArray, List.set_cons_zero, List.set_cons_succ]
          refine wpAnyH_take (i := 1) (oi := { dst := some 64, op := Op.move (Operand.tmp 10), type := 3, pos := "code.go:80", after := #[], guard := none }) (v := ?_) rfl (by kernel_rfl) (by kernel_rfl) (by kernel_rfl) (fun _ _ _ h => h) (Or.inl ⟨by rfl, fun W' hW' => ?_⟩) hcum ?_
          rotate_left 1
          · go_simp
            try rfl
          try simp only [Act.put, List.setIfInBounds_toArray, List.set_cons_zero, List.set_cons_succ]
          refine wpAnyH_take (i := 4) (oi := { dst := some 67, op := Op.move (Operand.tmp 9), type := 23, pos := "code.go:80", after := #[], guard := none }) (v := ?_) rfl (by kernel_rfl) (by kernel_rfl) (by kernel_rfl) (fun _ _ _ h => h) (Or.inl ⟨by rfl, fun W' hW' => ?_⟩) hcum ?_
          rotate_left 1
          · go_simp
            try rfl
          try simp only [Act.put, List.setIfInBounds_toArray, List.set_cons_zero, List.set_cons_succ]
          refine wpAnyH_take (i := 5) (oi := { dst := some 68, op := Op.move (Operand.tmp 1), type := 23, pos := "code.go:80", after := #[], guard := none }) (v := ?_) rfl (by kernel_rfl) (by kernel_rfl) (by kernel_rfl) (fun _ _ _ h => h) (Or.inl ⟨by rfl, fun W' hW' => ?_⟩) hcum ?_
          rotate_left 1
          · go_simp
            try rfl
          try simp only [Act.put, List.setIfInBounds_toArray, List.set_cons_zero, List.set_cons_succ]
          refine wpAnyH_take (i := 6) (oi := { dst := some 69, op := Op.move (Operand.tmp 10), type := 3, pos := "code.go:80", after := #[], guard := none }) (v := ?_) rfl (by kernel_rfl) (by kernel_rfl) (by kernel_rfl) (fun _ _ _ h => h) (Or.inl ⟨by rfl, fun W' hW' => ?_⟩) hcum ?_
          rotate_left 1
          · go_simp
            try rfl
          try simp only [Act.put, List.setIfInBounds_toArray, List.set_cons_zero, List.set_cons_succ]
          refine wpAnyH_take (i := 7) (oi := { dst := some 70, op := Op.indexAddr 23 (Operand.tmp 68) (Operand.tmp 69), type := 0, pos := "code.go:80", after := #[{ on := 5, ground := Ground.data }, { on := 6, ground := Ground.data }], guard := none }) (v := ?_) rfl (by kernel_rfl) (by kernel_rfl) (by kernel_rfl) (fun _ _ _ h => h) (Or.inl ⟨by rfl, fun W' hW' => ?_⟩) hcum ?_
          rotate_left 1
          · go_simp
            try rfl
          try simp only [Act.put, List.setIfInBounds_toArray, List.set_cons_zero, List.set_cons_succ]
          refine wpAnyH_take (i := 8) (oi := { dst := some 71, op := Op.load 9 (Operand.tmp 70), type := 9, pos := "code.go:80", after := #[{ on := 7, ground := Ground.data }], guard := none }) (v := ?_) rfl (by kernel_rfl) (by kernel_rfl) (by kernel_rfl) (fun _ _ _ h => h) (Or.inl ⟨by rfl, fun W' hW' => ?_⟩) hcum ?_
          rotate_left 1
          · (have hlc := HLW.out _ hW'; go_simp)
            try rfl
          try simp only [Act.put, List.setIfInBounds_toArray, List.set_cons_zero, List.set_cons_succ]
          refine wpAnyH_ready (rs := [2, 9]) (by kernel_rfl) (by simp) ?_
          refine AllReadyH.cons (o := { dst := some 65, op := Op.buildSlice 34 1 #[(0, Operand.tmp 64)], type := 34, pos := "code.go:80", after := #[{ on := 1, ground := Ground.data }], guard := none }) rfl (fun KK hK => ?_) (AllReadyH.cons (o := { dst := some 72, op := Op.buildSlice 23 1 #[(0, Operand.tmp 71)], type := 23, pos := "code.go:80", after := #[{ on := 8, ground := Ground.data }], guard := none }) rfl (fun KK hK => ?_) AllReadyH.nil)
          · rw [if_pos (by rfl)]
            go_simp
            have hbe := (Below.refl V0.heap.size V0).alloc (Nat.le_refl _) (.cells #[.int .i64 (i : Int)] 3)
            have hl1 := cell_one_new' V0 (.int .i64 (i : Int)) 3
            try (have hlo1 : ∀ q, (Value.slice Ag Hl.length cg).ownBlock = some q → q < V0.heap.size := fun q hq => (hog.lt q hq).2)
            try (replace hl2 := lit_below hl2 hbe hbl2)
            try (replace hbl2 := Nat.lt_of_lt_of_le hbl2 hbe.size)
            have hbl1 : V0.heap.size < (V0.alloc (.cells #[.int .i64 (i : Int)] 3)).heap.size := by simp
            replace hov := hov.alloc (.cells #[.int .i64 (i : Int)] 3)
            replace hog := hog.alloc (.cells #[.int .i64 (i : Int)] 3)
            replace hcum := hcum.trans (hbe.mono hcum.size)
            refine hK.out _ _ hcum (fun _ => ?_)
            clear hK hbe
            generalize V0.alloc (.cells #[.int .i64 (i : Int)] 3) = V1 at *
            generalize V0.heap.size = bl1 at *
            try simp only [Act.put, List.setIfInBounds_toArray, List.set_cons_zero, List.set_cons_succ]
            refine wpAnyH_ready (rs := [3, 9]) (by kernel_rfl) (by simp) ?_
            refine AllReadyH.cons (o := { dst := some 66, op := Op.call { callee := Callee.builtin Builtin.append, args := #[Operand.tmp 63, Operand.tmp 65], argTypes := #[34, 34] }, type := 34, pos := "code.go:80", after := #[{ on := 0, ground := Ground.data }, { on := 2, ground := Ground.data }], guard := none }) rfl (fun KK hK => ?_) (AllReadyH.cons (o := { dst := some 72, op := Op.buildSlice 23 1 #[(0, Operand.tmp 71)], type := 23, pos := "code.go:80", after := #[{ on := 8, ground := Ground.data }], guard := none }) rfl (fun KK hK => ?_) AllReadyH.nil)
            · have hB0w := hcum.size
              refine step_append_lies _ (by rfl) _ _ _ (by rfl) W0.heap.size 3 i0 _ 1 8 Try.underlying34 hi hz0 hz1 hz2 rfl (by decide) _ _ _ (by rfl) hov ⟨bl1, 0, none⟩ 1 1 [.int .i64 (i : Int)] (by simp [Act.eval]) (by rfl) hl1 (by intro u hu; simp at hu; subst hu; rfl) (by omega) (by unfold maxLen; omega) (by omega) (by omega) V1.heap.size rfl ?_
              intro g1 cap1 V2 hov' hgrow hat hltg
              have hbg : Below W0.heap.size V1 V2 := (Below.refl W0.heap.size V1).grown hgrow hcum.size (fun k hk => (hov.lt k hk).1)
              replace hog := hog.kept hgrow (own_apart (by decide) hog hov)
              try (replace hl2 := lit_grown hl2 hgrow hbl2 (fun e => by have := hlo2 bl2 e.symm; omega))
              try (replace hbl2 := Nat.lt_of_lt_of_le hbl2 hbg.size)
              replace hcum := hcum.trans hbg
              clear hov hgrow hat hltg hB0w
              have hov := hov'
              clear hov'
              refine hK.out _ _ hcum (fun _ => ?_)
              clear hK hbg
              try simp only [Act.put, List.setIfInBounds_toArray, List.set_cons_zero, List.set_cons_succ]
              refine wpAnyH_ready (rs := [9]) (by kernel_rfl) (by simp) ?_
              refine AllReadyH.cons (o := { dst := some 72, op := Op.buildSlice 23 1 #[(0, Operand.tmp 71)], type := 23, pos := "code.go:80", after := #[{ on := 8, ground := Ground.data }], guard := none }) rfl (fun KK hK => ?_) AllReadyH.nil
              rw [if_pos (by rfl)]
              go_simp
              have hbe := (Below.refl V2.heap.size V2).alloc (Nat.le_refl _) (.cells #[.string s] 9)
              have hl2 := cell_one_new' V2 (.string s) 9
              try (have hlo2 : ∀ q, (Value.slice Ah Hl.length ch).ownBlock = some q → q < V2.heap.size := fun q hq => (hov.lt q hq).2)
              try (replace hl1 := lit_below hl1 hbe hbl1)
              try (replace hbl1 := Nat.lt_of_lt_of_le hbl1 hbe.size)
              have hbl2 : V2.heap.size < (V2.alloc (.cells #[.string s] 9)).heap.size := by simp
              replace hov := hov.alloc (.cells #[.string s] 9)
              replace hog := hog.alloc (.cells #[.string s] 9)
              replace hcum := hcum.trans (hbe.mono hcum.size)
              refine hK.out _ _ hcum (fun _ => ?_)
              clear hK hbe
              generalize V2.alloc (.cells #[.string s] 9) = V3 at *
              generalize V2.heap.size = bl2 at *
              try simp only [Act.put, List.setIfInBounds_toArray, List.set_cons_zero, List.set_cons_succ]
              refine wpAnyH_ready (rs := [10]) (by kernel_rfl) (by simp) ?_
              refine AllReadyH.cons (o := { dst := some 73, op := Op.call { callee := Callee.builtin Builtin.append, args := #[Operand.tmp 67, Operand.tmp 72], argTypes := #[23, 23] }, type := 23, pos := "code.go:80", after := #[{ on := 4, ground := Ground.data }, { on := 9, ground := Ground.data }, { on := 3, ground := Ground.chain }], guard := none }) rfl (fun KK hK => ?_) AllReadyH.nil
              have hB0w := hcum.size
              refine step_append_lies _ (by rfl) _ _ _ (by rfl) W0.heap.size 9 j0 _ 1 16 Try.underlying23 hj hy0 hy1 hy2 rfl (by decide) _ _ _ (by rfl) hog ⟨bl2, 0, none⟩ 1 1 [.string s] (by simp [Act.eval]) (by rfl) hl2 (by intro u hu; simp at hu; subst hu; rfl) (by omega) (by unfold maxLen; omega) (by omega) (by omega) V3.heap.size rfl ?_
              intro g2 cap2 V4 hog' hgrow hat hltg
              have hbg : Below W0.heap.size V3 V4 := (Below.refl W0.heap.size V3).grown hgrow hcum.size (fun k hk => (hog.lt k hk).1)
              replace hov := hov.kept hgrow (own_apart (by decide) hov hog)
              try (replace hl1 := lit_grown hl1 hgrow hbl1 (fun e => by have := hlo1 bl1 e.symm; omega))
              try (replace hbl1 := Nat.lt_of_lt_of_le hbl1 hbg.size)
              replace hcum := hcum.trans hbg
              clear hog hgrow hat hltg hB0w
              have hog := hog'
              clear hog'
              refine hK.out _ _ hcum (fun _ => ?_)
              clear hK hbg
              try simp only [Act.put, List.setIfInBounds_toArray, List.set_cons_zero, List.set_cons_succ]
              refine wpAnyH_take (i := 11) (oi := { dst := some 8, op := Op.assign (Operand.tmp 66), type := 34, pos := "code.go:80", after := #[{ on := 3, ground := Ground.data }, { on := 10, ground := Ground.chain }, { on := 0, ground := Ground.phase }, { on := 1, ground := Ground.phase }, { on := 2, ground := Ground.phase }, { on := 3, ground := Ground.phase }, { on := 4, ground := Ground.textOnly Departure.lateStores }, { on := 5, ground := Ground.textOnly Departure.lateStores }, { on := 6, ground := Ground.textOnly Departure.lateStores }, { on := 7, ground := Ground.textOnly Departure.lateStores }, { on := 8, ground := Ground.textOnly Departure.lateStores }, { on := 9, ground := Ground.textOnly Departure.lateStores }, { on := 10, ground := Ground.textOnly Departure.lateStoresUnsure }], guard := none }) (v := ?_) rfl (by kernel_rfl) (by kernel_rfl) (by kernel_rfl) (fun _ _ _ h => h) (Or.inl ⟨by rfl, fun W' hW' => ?_⟩) hcum ?_
              rotate_left 1
              · go_simp
                try rfl
              try simp only [Act.put, List.setIfInBounds_toArray, List.set_cons_zero, List.set_cons_succ]
              refine wpAnyH_take (i := 12) (oi := { dst := some 9, op := Op.assign (Operand.tmp 73), type := 23, pos := "code.go:80", after := #[{ on := 10, ground := Ground.data }, { on := 11, ground := Ground.chain }, { on := 0, ground := Ground.phase }, { on := 1, ground := Ground.phase }, { on := 2, ground := Ground.phase }, { on := 3, ground := Ground.phase }, { on := 4, ground := Ground.phase }, { on := 5, ground := Ground.phase }, { on := 6, ground := Ground.phase }, { on := 7, ground := Ground.phase }, { on := 8, ground := Ground.phase }, { on := 9, ground := Ground.phase }, { on := 10, ground := Ground.phase }, { on := 11, ground := Ground.phase }], guard := none }) (v := ?_) rfl (by kernel_rfl) (by kernel_rfl) (by kernel_rfl) (fun _ _ _ h => h) (Or.inl ⟨by rfl, fun W' hW' => ?_⟩) hcum ?_
              rotate_left 1
              · go_simp
                try rfl
              try simp only [Act.put, List.setIfInBounds_toArray, List.set_cons_zero, List.set_cons_succ]
              refine wpAnyH_done (by kernel_rfl) ?_ _
              go_wp2_with fail
              go_roundw
              case rel => exact ⟨i + 1, Hl ++ [(i : Int)], _, _, rfl, rfl, by go_num, by omega, HHN', by rw [List.length_append, i64s_snoc]; exact Lib.hid hov, by rw [List.length_append, givenL_snoc, List.map_append, HS.out]; exact Lib.hid hog, Lib.hid hcum⟩
              case measure => simp [intOf]; omega
            · rw [if_pos (by rfl)]
              go_simp
              have hbe := (Below.refl V1.heap.size V1).alloc (Nat.le_refl _) (.cells #[.string s] 9)
              have hl2 := cell_one_new' V1 (.string s) 9
              try (have hlo2 : ∀ q, (Value.slice Ah Hl.length ch).ownBlock = some q → q < V1.heap.size := fun q hq => (hov.lt q hq).2)
              try (replace hl1 := lit_below hl1 hbe hbl1)
              try (replace hbl1 := Nat.lt_of_lt_of_le hbl1 hbe.size)
              have hbl2 : V1.heap.size < (V1.alloc (.cells #[.string s] 9)).heap.size := by simp
              replace hov := hov.alloc (.cells #[.string s] 9)
              replace hog := hog.alloc (.cells #[.string s] 9)
              replace hcum := hcum.trans (hbe.mono hcum.size)
              refine hK.out _ _ hcum (fun _ => ?_)
              clear hK hbe
              generalize V1.alloc (.cells #[.string s] 9) = V2 at *
              generalize V1.heap.size = bl2 at *
              try simp only [Act.put, List.setIfInBounds_toArray, List.set_cons_zero, List.set_cons_succ]
              refine wpAnyH_ready (rs := [3]) (by kernel_rfl) (by simp) ?_
              refine AllReadyH.cons (o := { dst := some 66, op := Op.call { callee := Callee.builtin Builtin.append, args := #[Operand.tmp 63, Operand.tmp 65], argTypes := #[34, 34] }, type := 34, pos := "code.go:80", after := #[{ on := 0, ground := Ground.data }, { on := 2, ground := Ground.data }], guard := none }) rfl (fun KK hK => ?_) AllReadyH.nil
              have hB0w := hcum.size
              refine step_append_lies _ (by rfl) _ _ _ (by rfl) W0.heap.size 3 i0 _ 1 8 Try.underlying34 hi hz0 hz1 hz2 rfl (by decide) _ _ _ (by rfl) hov ⟨bl1, 0, none⟩ 1 1 [.int .i64 (i : Int)] (by simp [Act.eval]) (by rfl) hl1 (by intro u hu; simp at hu; subst hu; rfl) (by omega) (by unfold maxLen; omega) (by omega) (by omega) V2.heap.size rfl ?_
              intro g1 cap1 V3 hov' hgrow hat hltg
              have hbg : Below W0.heap.size V2 V3 := (Below.refl W0.heap.size V2).grown hgrow hcum.size (fun k hk => (hov.lt k hk).1)
              replace hog := hog.kept hgrow (own_apart (by decide) hog hov)
              try (replace hl2 := lit_grown hl2 hgrow hbl2 (fun e => by have := hlo2 bl2 e.symm; omega))
              try (replace hbl2 := Nat.lt_of_lt_of_le hbl2 hbg.size)
              replace hcum := hcum.trans hbg
              clear hov hgrow hat hltg hB0w
              have hov := hov'
              clear hov'
              refine hK.out _ _ hcum (fun _ => ?_)
              clear hK hbg
              try simp only [Act.put, List.setIfInBounds_toArray, List.set_cons_zero, List.set_cons_succ]
              refine wpAnyH_ready (rs := [10]) (by kernel_rfl) (by simp) ?_
              refine AllReadyH.cons (o := { dst := some 73, op := Op.call { callee := Callee.builtin Builtin.append, args := #[Operand.tmp 67, Operand.tmp 72], argTypes := #[23, 23] }, type := 23, pos := "code.go:80", after := #[{ on := 4, ground := Ground.data }, { on := 9, ground := Ground.data }, { on := 3, ground := Ground.chain }], guard := none }) rfl (fun KK hK => ?_) AllReadyH.nil
              have hB0w := hcum.size
              refine step_append_lies _ (by rfl) _ _ _ (by rfl) W0.heap.size 9 j0 _ 1 16 Try.underlying23 hj hy0 hy1 hy2 rfl (by decide) _ _ _ (by rfl) hog ⟨bl2, 0, none⟩ 1 1 [.string s] (by simp [Act.eval]) (by rfl) hl2 (by intro u hu; simp at hu; subst hu; rfl) (by omega) (by unfold maxLen; omega) (by omega) (by omega) V3.heap.size rfl ?_
              intro g2 cap2 V4 hog' hgrow hat hltg
              have hbg : Below W0.heap.size V3 V4 := (Below.refl W0.heap.size V3).grown hgrow hcum.size (fun k hk => (hog.lt k hk).1)
              replace hov := hov.kept hgrow (own_apart (by decide) hov hog)
              try (replace hl1 := lit_grown hl1 hgrow hbl1 (fun e => by have := hlo1 bl1 e.symm; omega))
              try (replace hbl1 := Nat.lt_of_lt_of_le hbl1 hbg.size)
              replace hcum := hcum.trans hbg
              clear hog hgrow hat hltg hB0w
              have hog := hog'
              clear hog'
              refine hK.out _ _ hcum (fun _ => ?_)
              clear hK hbg
              try simp only [Act.put, List.setIfInBounds_toArray, List.set_cons_zero, List.set_cons_succ]
              refine wpAnyH_take (i := 11) (oi := { dst := some 8, op := Op.assign (Operand.tmp 66), type := 34, pos := "code.go:80", after := #[{ on := 3, ground := Ground.data }, { on := 10, ground := Ground.chain }, { on := 0, ground := Ground.phase }, { on := 1, ground := Ground.phase }, { on := 2, ground := Ground.phase }, { on := 3, ground := Ground.phase }, { on := 4, ground := Ground.textOnly Departure.lateStores }, { on := 5, ground := Ground.textOnly Departure.lateStores }, { on := 6, ground := Ground.textOnly Departure.lateStores }, { on := 7, ground := Ground.textOnly Departure.lateStores }, { on := 8, ground := Ground.textOnly Departure.lateStores }, { on := 9, ground := Ground.textOnly Departure.lateStores }, { on := 10, ground := Ground.textOnly Departure.lateStoresUnsure }], guard := none }) (v := ?_) rfl (by kernel_rfl) (by kernel_rfl) (by kernel_rfl) (fun _ _ _ h => h) (Or.inl ⟨by rfl, fun W' hW' => ?_⟩) hcum ?_
              rotate_left 1
              · go_simp
                try rfl
              try simp only [Act.put, List.setIfInBounds_toArray, List.set_cons_zero, List.set_cons_succ]
              refine wpAnyH_take (i := 12) (oi := { dst := some 9, op := Op.assign (Operand.tmp 73), type := 23, pos := "code.go:80", after := #[{ on := 10, ground := Ground.data }, { on := 11, ground := Ground.chain }, { on := 0, ground := Ground.phase }, { on := 1, ground := Ground.phase }, { on := 2, ground := Ground.phase }, { on := 3, ground := Ground.phase }, { on := 4, ground := Ground.phase }, { on := 5, ground := Ground.phase }, { on := 6, ground := Ground.phase }, { on := 7, ground := Ground.phase }, { on := 8, ground := Ground.phase }, { on := 9, ground := Ground.phase }, { on := 10, ground := Ground.phase }, { on := 11, ground := Ground.phase }], guard := none }) (v := ?_) rfl (by kernel_rfl) (by kernel_rfl) (by kernel_rfl) (fun _ _ _ h => h) (Or.inl ⟨by rfl, fun W' hW' => ?_⟩) hcum ?_
              rotate_left 1
              · go_simp
                try rfl
              try simp only [Act.put, List.setIfInBounds_toArray, List.set_cons_zero, List.set_cons_succ]
              refine wpAnyH_done (by kernel_rfl) ?_ _
              go_wp2_with fail
              go_roundw
              case rel => exact ⟨i + 1, Hl ++ [(i : Int)], _, _, rfl, rfl, by go_num, by omega, HHN', by rw [List.length_append, i64s_snoc]; exact Lib.hid hov, by rw [List.length_append, givenL_snoc, List.map_append, HS.out]; exact Lib.hid hog, Lib.hid hcum⟩
              case measure => simp [intOf]; omega
          · rw [if_pos (by rfl)]
            go_simp
            have hbe := (Below.refl V0.heap.size V0).alloc (Nat.le_refl _) (.cells #[.string s] 9)
            have hl2 := cell_one_new' V0 (.string s) 9
            try (have hlo2 : ∀ q, (Value.slice Ah Hl.length ch).ownBlock = some q → q < V0.heap.size := fun q hq => (hov.lt q hq).2)
            try (replace hl1 := lit_below hl1 hbe hbl1)
            try (replace hbl1 := Nat.lt_of_lt_of_le hbl1 hbe.size)
            have hbl2 : V0.heap.size < (V0.alloc (.cells #[.string s] 9)).heap.size := by simp
            replace hov := hov.alloc (.cells #[.string s] 9)
            replace hog := hog.alloc (.cells #[.string s] 9)
            replace hcum := hcum.trans (hbe.mono hcum.size)
            refine hK.out _ _ hcum (fun _ => ?_)
            clear hK hbe
            generalize V0.alloc (.cells #[.string s] 9) = V1 at *
            generalize V0.heap.size = bl2 at *
            try simp only [Act.put, List.setIfInBounds_toArray, List.set_cons_zero, List.set_cons_succ]
            refine wpAnyH_ready (rs := [2]) (by kernel_rfl) (by simp) ?_
            refine AllReadyH.cons (o := { dst := some 65, op := Op.buildSlice 34 1 #[(0, Operand.tmp 64)], type := 34, pos := "code.go:80", after := #[{ on := 1, ground := Ground.data }], guard := none }) rfl (fun KK hK => ?_) AllReadyH.nil
            rw [if_pos (by rfl)]
            go_simp
            have hbe := (Below.refl V1.heap.size V1).alloc (Nat.le_refl _) (.cells #[.int .i64 (i : Int)] 3)
            have hl1 := cell_one_new' V1 (.int .i64 (i : Int)) 3
            try (have hlo1 : ∀ q, (Value.slice Ag Hl.length cg).ownBlock = some q → q < V1.heap.size := fun q hq => (hog.lt q hq).2)
            try (replace hl2 := lit_below hl2 hbe hbl2)
            try (replace hbl2 := Nat.lt_of_lt_of_le hbl2 hbe.size)
            have hbl1 : V1.heap.size < (V1.alloc (.cells #[.int .i64 (i : Int)] 3)).heap.size := by simp
            replace hov := hov.alloc (.cells #[.int .i64 (i : Int)] 3)
            replace hog := hog.alloc (.cells #[.int .i64 (i : Int)] 3)
            replace hcum := hcum.trans (hbe.mono hcum.size)
            refine hK.out _ _ hcum (fun _ => ?_)
            clear hK hbe
            generalize V1.alloc (.cells #[.int .i64 (i : Int)] 3) = V2 at *
            generalize V1.heap.size = bl1 at *
            try simp only [Act.put, List.setIfInBounds_toArray, List.set_cons_zero, List.set_cons_succ]
            refine wpAnyH_ready (rs := [3]) (by kernel_rfl) (by simp) ?_
            refine AllReadyH.cons (o := { dst := some 66, op := Op.call { callee := Callee.builtin Builtin.append, args := #[Operand.tmp 63, Operand.tmp 65], argTypes := #[34, 34] }, type := 34, pos := "code.go:80", after := #[{ on := 0, ground := Ground.data }, { on := 2, ground := Ground.data }], guard := none }) rfl (fun KK hK => ?_) AllReadyH.nil
            have hB0w := hcum.size
            refine step_append_lies _ (by rfl) _ _ _ (by rfl) W0.heap.size 3 i0 _ 1 8 Try.underlying34 hi hz0 hz1 hz2 rfl (by decide) _ _ _ (by rfl) hov ⟨bl1, 0, none⟩ 1 1 [.int .i64 (i : Int)] (by simp [Act.eval]) (by rfl) hl1 (by intro u hu; simp at hu; subst hu; rfl) (by omega) (by unfold maxLen; omega) (by omega) (by omega) V2.heap.size rfl ?_
            intro g1 cap1 V3 hov' hgrow hat hltg
            have hbg : Below W0.heap.size V2 V3 := (Below.refl W0.heap.size V2).grown hgrow hcum.size (fun k hk => (hov.lt k hk).1)
            replace hog := hog.kept hgrow (own_apart (by decide) hog hov)
            try (replace hl2 := lit_grown hl2 hgrow hbl2 (fun e => by have := hlo2 bl2 e.symm; omega))
            try (replace hbl2 := Nat.lt_of_lt_of_le hbl2 hbg.size)
            replace hcum := hcum.trans hbg
            clear hov hgrow hat hltg hB0w
            have hov := hov'
            clear hov'
            refine hK.out _ _ hcum (fun _ => ?_)
            clear hK hbg
            try simp only [Act.put, List.setIfInBounds_toArray, List.set_cons_zero, List.set_cons_succ]
            refine wpAnyH_ready (rs := [10]) (by kernel_rfl) (by simp) ?_
            refine AllReadyH.cons (o := { dst := some 73, op := Op.call { callee := Callee.builtin Builtin.append, args := #[Operand.tmp 67, Operand.tmp 72], argTypes := #[23, 23] }, type := 23, pos := "code.go:80", after := #[{ on := 4, ground := Ground.data }, { on := 9, ground := Ground.data }, { on := 3, ground := Ground.chain }], guard := none }) rfl (fun KK hK => ?_) AllReadyH.nil
            have hB0w := hcum.size
            refine step_append_lies _ (by rfl) _ _ _ (by rfl) W0.heap.size 9 j0 _ 1 16 Try.underlying23 hj hy0 hy1 hy2 rfl (by decide) _ _ _ (by rfl) hog ⟨bl2, 0, none⟩ 1 1 [.string s] (by simp [Act.eval]) (by rfl) hl2 (by intro u hu; simp at hu; subst hu; rfl) (by omega) (by unfold maxLen; omega) (by omega) (by omega) V3.heap.size rfl ?_
            intro g2 cap2 V4 hog' hgrow hat hltg
            have hbg : Below W0.heap.size V3 V4 := (Below.refl W0.heap.size V3).grown hgrow hcum.size (fun k hk => (hog.lt k hk).1)
            replace hov := hov.kept hgrow (own_apart (by decide) hov hog)
            try (replace hl1 := lit_grown hl1 hgrow hbl1 (fun e => by have := hlo1 bl1 e.symm; omega))
            try (replace hbl1 := Nat.lt_of_lt_of_le hbl1 hbg.size)
            replace hcum := hcum.trans hbg
            clear hog hgrow hat hltg hB0w
            have hog := hog'
            clear hog'
            refine hK.out _ _ hcum (fun _ => ?_)
            clear hK hbg
            try simp only [Act.put, List.setIfInBounds_toArray, List.set_cons_zero, List.set_cons_succ]
            refine wpAnyH_take (i := 11) (oi := { dst := some 8, op := Op.assign (Operand.tmp 66), type := 34, pos := "code.go:80", after := #[{ on := 3, ground := Ground.data }, { on := 10, ground := Ground.chain }, { on := 0, ground := Ground.phase }, { on := 1, ground := Ground.phase }, { on := 2, ground := Ground.phase }, { on := 3, ground := Ground.phase }, { on := 4, ground := Ground.textOnly Departure.lateStores }, { on := 5, ground := Ground.textOnly Departure.lateStores }, { on := 6, ground := Ground.textOnly Departure.lateStores }, { on := 7, ground := Ground.textOnly Departure.lateStores }, { on := 8, ground := Ground.textOnly Departure.lateStores }, { on := 9, ground := Ground.textOnly Departure.lateStores }, { on := 10, ground := Ground.textOnly Departure.lateStoresUnsure }], guard := none }) (v := ?_) rfl (by kernel_rfl) (by kernel_rfl) (by kernel_rfl) (fun _ _ _ h => h) (Or.inl ⟨by rfl, fun W' hW' => ?_⟩) hcum ?_
            rotate_left 1
            · go_simp
              try rfl
            try simp only [Act.put, List.setIfInBounds_toArray, List.set_cons_zero, List.set_cons_succ]
            refine wpAnyH_take (i := 12) (oi := { dst := some 9, op := Op.assign (Operand.tmp 73), type := 23, pos := "code.go:80", after := #[{ on := 10, ground := Ground.data }, { on := 11, ground := Ground.chain }, { on := 0, ground := Ground.phase }, { on := 1, ground := Ground.phase }, { on := 2, ground := Ground.phase }, { on := 3, ground := Ground.phase }, { on := 4, ground := Ground.phase }, { on := 5, ground := Ground.phase }, { on := 6, ground := Ground.phase }, { on := 7, ground := Ground.phase }, { on := 8, ground := Ground.phase }, { on := 9, ground := Ground.phase }, { on := 10, ground := Ground.phase }, { on := 11, ground := Ground.phase }], guard := none }) (v := ?_) rfl (by kernel_rfl) (by kernel_rfl) (by kernel_rfl) (fun _ _ _ h => h) (Or.inl ⟨by rfl, fun W' hW' => ?_⟩) hcum ?_
            rotate_left 1
            · go_simp
              try rfl
            try simp only [Act.put, List.setIfInBounds_toArray, List.set_cons_zero, List.set_cons_succ]
            refine wpAnyH_done (by kernel_rfl) ?_ _
            go_wp2_with fail
            go_roundw
            case rel => exact ⟨i + 1, Hl ++ [(i : Int)], _, _, rfl, rfl, by go_num, by omega, HHN', by rw [List.length_append, i64s_snoc]; exact Lib.hid hov, by rw [List.length_append, givenL_snoc, List.map_append, HS.out]; exact Lib.hid hog, Lib.hid hcum⟩
            case measure => simp [intOf]; omega
        · have hd : decide ((Hl.length : Int) < (K : Int)) = false := by simp; omega
          have HHN' : Hid (Hl = haveN bs K (i + 1)) := by
            have h := HHN.out
            rw [Hid, haveN_stop (by rw [← h]; exact hK)]
            exact h
          go_upto_region 8 with fail
          clear hbcell
          refine wp_region_held (S := fun W' => Below wr.heap.size wr W') (by kernel_rfl) ?_
          change wpAnyH _ _ _ _ _ 11 _ _ wr.drew
          have hcum := (Below.refl wr.heap.size wr).drew
          generalize wr.drew = V0 at *
          refine wpAnyH_take (i := 0) (oi := { dst := some 44, op := Op.move (Operand.tmp 11), type := 4, pos := "code.go:76", after := #[], guard := none }) (v := ?_) rfl (by kernel_rfl) (by kernel_rfl) (by kernel_rfl) (fun _ _ _ h => h) (Or.inl ⟨by rfl, fun W' hW' => ?_⟩) hcum ?_
          rotate_left 1
          · go_simp
            try rfl
          try simp only [Act.put, List.setIfInBounds_toArray, List.set_cons_zero, List.set_cons_succ]
          refine wpAnyH_take (i := 1) (oi := { dst := some 45, op := Op.move (Operand.tmp 44), type := 4, pos := "code.go:76", after := #[{ on := 0, ground := Ground.data }], guard := none }) (v := ?_) rfl (by kernel_rfl) (by kernel_rfl) (by kernel_rfl) (fun _ _ _ h => h) (Or.inl ⟨by rfl, fun W' hW' => ?_⟩) hcum ?_
          rotate_left 1
          · go_simp
            try rfl
          try simp only [Act.put, List.setIfInBounds_toArray, List.set_cons_zero, List.set_cons_succ]
          refine wpAnyH_take (i := 2) (oi := { dst := some 46, op := Op.move (Operand.tmp 1), type := 23, pos := "code.go:76", after := #[{ on := 1, ground := Ground.guard }], guard := some (1, true) }) (v := ?_) rfl (by kernel_rfl) (by kernel_rfl) (by kernel_rfl) (fun _ _ _ h => h) (Or.inl ⟨by rfl, fun W' hW' => ?_⟩) hcum ?_
          rotate_left 1
          · go_simp
            try rfl
          try simp only [Act.put, List.setIfInBounds_toArray, List.set_cons_zero, List.set_cons_succ]
          refine wpAnyH_take (i := 3) (oi := { dst := some 47, op := Op.move (Operand.tmp 10), type := 3, pos := "code.go:76", after := #[{ on := 1, ground := Ground.guard }], guard := some (1, true) }) (v := ?_) rfl (by kernel_rfl) (by kernel_rfl) (by kernel_rfl) (fun _ _ _ h => h) (Or.inl ⟨by rfl, fun W' hW' => ?_⟩) hcum ?_
          rotate_left 1
          · go_simp
            try rfl
          try simp only [Act.put, List.setIfInBounds_toArray, List.set_cons_zero, List.set_cons_succ]
          refine wpAnyH_take (i := 4) (oi := { dst := some 48, op := Op.indexAddr 23 (Operand.tmp 46) (Operand.tmp 47), type := 0, pos := "code.go:76", after := #[{ on := 2, ground := Ground.data }, { on := 3, ground := Ground.data }, { on := 1, ground := Ground.guard }], guard := some (1, true) }) (v := ?_) rfl (by kernel_rfl) (by kernel_rfl) (by kernel_rfl) (fun _ _ _ h => h) (Or.inl ⟨by rfl, fun W' hW' => ?_⟩) hcum ?_
          rotate_left 1
          · go_simp
            try rfl
          try simp only [Act.put, List.setIfInBounds_toArray, List.set_cons_zero, List.set_cons_succ]
          refine wpAnyH_take (i := 5) (oi := { dst := some 49, op := Op.load 9 (Operand.tmp 48), type := 9, pos := "code.go:76", after := #[{ on := 4, ground := Ground.data }, { on := 1, ground := Ground.guard }], guard := some (1, true) }) (v := ?_) rfl (by kernel_rfl) (by kernel_rfl) (by kernel_rfl) (fun _ _ _ h => h) (Or.inl ⟨by rfl, fun W' hW' => ?_⟩) hcum ?_
          rotate_left 1
          · (obtain ⟨x0, x1, x2, _, _, _⟩ := T1r.out.below hW'; have hlc := HLC.out _ hW'; go_simp)
            try rfl
          try simp only [Act.put, List.setIfInBounds_toArray, List.set_cons_zero, List.set_cons_succ]
          refine wpAnyH_take (i := 6) (oi := { dst := some 50, op := Op.call { callee := Callee.builtin Builtin.len, args := #[Operand.tmp 49], argTypes := #[9] }, type := 3, pos := "code.go:76", after := #[{ on := 5, ground := Ground.data }, { on := 1, ground := Ground.guard }], guard := some (1, true) }) (v := ?_) rfl (by kernel_rfl) (by kernel_rfl) (by kernel_rfl) (fun _ _ _ h => h) (Or.inl ⟨by rfl, fun W' hW' => ?_⟩) hcum ?_
          rotate_left 1
          · go_simp
            try rfl
          try simp only [Act.put, List.setIfInBounds_toArray, List.set_cons_zero, List.set_cons_succ]
          refine wpAnyH_take (i := 7) (oi := { dst := some 51, op := Op.fieldAddr 29 (Operand.tmp 3) 2, type := 0, pos := "code.go:76", after := #[{ on := 1, ground := Ground.guard }], guard := some (1, true) }) (v := ?_) rfl (by kernel_rfl) (by kernel_rfl) (by kernel_rfl) (fun _ _ _ h => h) (Or.inl ⟨by rfl, fun W' hW' => ?_⟩) hcum ?_
          rotate_left 1
          · go_simp
            try rfl
          try simp only [Act.put, List.setIfInBounds_toArray, List.set_cons_zero, List.set_cons_succ]
          refine wpAnyH_take (i := 8) (oi := { dst := some 52, op := Op.load 3 (Operand.tmp 51), type := 3, pos := "code.go:76", after := #[{ on := 7, ground := Ground.data }, { on := 1, ground := Ground.guard }], guard := some (1, true) }) (v := ?_) rfl (by kernel_rfl) (by kernel_rfl) (by kernel_rfl) (fun _ _ _ h => h) (Or.inl ⟨by rfl, fun W' hW' => ?_⟩) hcum ?_
          rotate_left 1
          · (obtain ⟨x0, x1, x2, _, _, _⟩ := T1r.out.below hW'; have hlc := HLC.out _ hW'; go_simp)
            try rfl
          try simp only [Act.put, List.setIfInBounds_toArray, List.set_cons_zero, List.set_cons_succ]
          refine wpAnyH_take (i := 9) (oi := { dst := some 53, op := Op.binOp BinOp.neq 3 (Operand.tmp 50) (Operand.tmp 52) 3, type := 4, pos := "code.go:76", after := #[{ on := 6, ground := Ground.data }, { on := 8, ground := Ground.data }, { on := 1, ground := Ground.guard }], guard := some (1, true) }) (v := ?_) rfl (by kernel_rfl) (by kernel_rfl) (by kernel_rfl) (fun _ _ _ h => h) (Or.inl ⟨by rfl, fun W' hW' => ?_⟩) hcum ?_
          rotate_left 1
          · go_simp
            try rfl
          try simp only [Act.put, List.setIfInBounds_toArray, List.set_cons_zero, List.set_cons_succ]
          refine wpAnyH_take (i := 10) (oi := { dst := some 54, op := Op.pick (Operand.tmp 45) (Operand.tmp 53) (Operand.const (Value.bool false)), type := 4, pos := "code.go:76", after := #[{ on := 1, ground := Ground.data }, { on := 9, ground := Ground.data }], guard := none }) (v := ?_) rfl (by kernel_rfl) (by kernel_rfl) (by kernel_rfl) (fun _ _ _ h => h) (Or.inl ⟨by rfl, fun W' hW' => ?_⟩) hcum ?_
          rotate_left 1
          · go_simp
            try rfl
          try simp only [Act.put, List.setIfInBounds_toArray, List.set_cons_zero, List.set_cons_succ]
          refine wpAnyH_done (by kernel_rfl) ?_ _
          obtain ⟨x0, x1, x2, _, _, _⟩ := T1r.out.below hcum
          have HBn := Lib.hid (HBr.out.trans (hcum.mono HBr.out.size))
          have HOV := Lib.hid (own_below hov.out hcum)
          have HOG := Lib.hid (own_below hog.out hcum)
          go_wp2_with fail
          go_roundw
          case rel => exact ⟨i + 1, Hl, _, _, rfl, rfl, by go_num, by omega, HHN', HOV, HOG, HBn⟩
          case measure => simp [intOf]; omega
    · have hie : i = n := by omega
      have hid1 : decide ((i : Int) < (n : Int)) = false := by simp; omega
      have HHn : Hid (Hl = haveN bs K n) := by rw [Hid, ← hie]; exact HHN.out
      have HBw := Lib.hid (HB1.out.trans (HBr.out.mono HB1.out.size))
      obtain ⟨x0, x1, x2, _, _, _⟩ := T1r.out
      clear hie HHN
      by_cases hK : Hl.length < K
      · have hd : decide ((Hl.length : Int) < (K : Int)) = true := by simp; omega
        have HE : Hid (rebE n K bs = 8) := by rw [Hid, rebE, ← HHn.out, if_pos hK]
        have HR : Hid (rebL n K Z bs l = []) := by rw [Hid, rebL, ← HHn.out, if_pos hK]
        go_wp2_with fail
        go_ret2
        refine ⟨.slice none 0 0, by rw [HE.out]; rfl, ?_, HBw.out⟩
        rw [HR.out]
        exact World.ownsRow_nil _ _ _ _
      · have hd : decide ((Hl.length : Int) < (K : Int)) = false := by simp; omega
        have hKK : Hl.length = K := by omega
        have HKK := Lib.hid hKK
        have HE : Hid (rebE n K bs = 0) := by rw [Hid, rebE, ← HHn.out, if_neg hK]
        have HR : Hid (rebL n K Z bs l = applyL (timesL (genL n K) (overL n K Hl) n K K) (givenL Hl l) n K Z) := by rw [Hid, rebL, ← HHn.out, if_neg hK]
        have HOK : Hid (RowsOk n K Hl) := by
          have h := haveN_ok (bs := bs) (K := K) (n := n) (by rw [← HHn.out]; exact hKK)
          rw [← HHn.out] at h
          exact h
        have HGZ : Hid (∀ s ∈ givenL Hl l, s.size = Z) := by rw [HHn.out]; exact givenL_size HSZ.out
        have hnum := numsIn_own hov.out (fun z hz => by have := HOK.out.lt z hz; omega) (by omega)
        have hsg : Strs6 wr (.slice Ag Hl.length cg) (givenL Hl l) := by
          have h := RowIs.of_own hog.out
          show RowIs _ _ (givenL Hl l).length 1 _
          rw [givenL_len]
          exact h
        rw [hKK] at hnum hsg ⊢
        have HNU := Lib.hid hnum
        have HSG := Lib.hid hsg
        obtain ⟨nk, hnk⟩ : ∃ nk, nk = n * K := ⟨_, rfl⟩
        have hle : nk ≤ 14 * 8 := by rw [hnk]; exact Nat.mul_le_mul hn14 k8
        have HNK := Lib.hid hnk
        obtain ⟨kk, hkk⟩ : ∃ q, q = K * K := ⟨_, rfl⟩
        have hq64 : kk ≤ 8 * 8 := by rw [hkk]; exact Nat.mul_le_mul k8 k8
        have hk0 : 0 < kk := by rw [hkk]; exact Nat.mul_pos k1 k1
        have HKQ := Lib.hid hkk
        have HPL : Hid ((pickL (genL n K) K Hl).length = kk) := by rw [Hid, rowL_length (HOK.out.fits (genL_len n K)), hKK, hkk]
        have HGL : Hid ((genL n K).length = nk) := by rw [Hid, genL_len, hnk]
        clear hKK hnum hsg hnk hkk hov hog
        go_wp2_with fail
        refine (gen_any K M (Z : Int) wr k1 k8 m6).mono ?_
        rintro e V1 ⟨vr, rfl, hmr, hb1⟩
        obtain ⟨B4, h41, h42, rfl, hbk4, hl4⟩ := hmr
        rw [← HNN.out] at hbk4
        rw [← HNN.out, ← HNK.out]
        have hbv4 := BytesV.of_blk (c := nk) hbk4 h42
        rw [HGL.out] at hbv4
        obtain ⟨o12, ho12⟩ : ∃ o, o = (Obj.cells #[.int .i64 (n : Int), .int .i64 (K : Int), .slice (some ⟨B4, 0, none⟩) nk nk] 55) := ⟨_, rfl⟩
        have to12 := Three.new V1 (.int .i64 (n : Int)) (.int .i64 (K : Int)) (.slice (some ⟨B4, 0, none⟩) nk nk) 55
        rw [← ho12] at to12
        have hal := (Below.refl V1.heap.size V1).alloc (Nat.le_refl _) o12
        have hba := cum2 hb1 hal
        have HNUa := Lib.hid (numsIn_belowP HNU.out hba)
        have HSGa := Lib.hid (HSG.out.below hba)
        have HBa := Lib.hid (HBw.out.trans (hba.mono HBw.out.size))
        have HGa := Lib.hid (hbv4.below hal)
        have HT12 := Lib.hid to12
        obtain ⟨y0, y1, y2, _, _, _⟩ := to12
        rw [ho12] at y0 y1 y2
        clear hal hba hb1 hbv4 hbk4 hl4 h41 h42 x0 x1 x2
        unfold matV
        go_upto_region 16 with fail
        rw [← ho12]
        clear y0 y1 y2 ho12
        generalize V1.alloc o12 = W12 at *
        generalize V1.heap.size = b12 at *
        obtain ⟨y0, y1, y2, _, _, _⟩ := HT12.out
        -- the rows that are there
        go_wp2_with fail
        have HC := pick_yes n K B4 0 nk (genL n K) (.slice Ah K ch) Hl W12 (by rw [HGL.out]; exact HGa.out) HNUa.out (genL_len n K) (by omega) (by omega) k1 (by omega) (by rw [HGL.out]; exact Nat.le_refl _) (by omega) (by rw [HKK.out]; exact k1) (by rw [HKK.out]; omega) HOK.out.lt
        rw [HKK.out, HGL.out] at HC
        unfold matV at HC
        with_reducible refine HC.mono ?_
        rintro e V2 ⟨rt, rfl, hot, hb2⟩
        obtain ⟨Xt, hXt, _⟩ := own_of_row (ns := pickL (genL n K) K Hl) (by rw [HPL.out, HKQ.out]; exact hot) (pick_all' (genL_lt n K))
        obtain ⟨At, kt, rfl⟩ := hXt.1.shape
        have hbt := hXt.1
        rw [HPL.out] at hbt
        rw [HPL.out]
        clear HC hot hXt y0 y1 y2
        obtain ⟨o13, ho13⟩ : ∃ o, o = (Obj.cells #[.int .i64 (K : Int), .int .i64 (K : Int), .slice At kk kt] 55) := ⟨_, rfl⟩
        have to13 := Three.new V2 (.int .i64 (K : Int)) (.int .i64 (K : Int)) (.slice At kk kt) 55
        rw [← ho13] at to13
        have hal := (Below.refl V2.heap.size V2).alloc (Nat.le_refl _) o13
        have hba := cum2 hb2 hal
        have HSGb := Lib.hid (HSGa.out.below hba)
        have HBb := Lib.hid (HBa.out.trans (hba.mono HBa.out.size))
        have HGb := Lib.hid (HGa.out.below hba)
        have HT12b := Lib.hid (HT12.out.below hba)
        have HPb := Lib.hid (hbt.below hal)
        have HT13 := Lib.hid to13
        obtain ⟨z0, z1, z2, _, _, _⟩ := to13
        rw [ho13] at z0 z1 z2
        clear hal hba hb2 hbt
        go_upto_region 17 with fail
        rw [← ho13]
        clear z0 z1 z2 ho13
        generalize V2.alloc o13 = W13 at *
        generalize V2.heap.size = b13 at *
        obtain ⟨z0, z1, z2, _, _, _⟩ := HT13.out
        obtain ⟨bt, ot, hAt, hbtl, _⟩ := HPb.out.at_ (k := 0) (by rw [HPL.out]; exact hk0)
        subst hAt
        -- their inverse
        go_wp2_with fail
        have HC := invert_yes K bt ot kt (pickL (genL n K) K Hl) W13 (by rw [HPL.out]; exact HPb.out) (by rw [HPL.out, HKQ.out]) k1 (by omega)
        rw [HPL.out] at HC
        unfold matV at HC
        with_reducible refine HC.mono ?_
        rintro e V3 ⟨vo, rfl, him, hb3⟩
        have hmd : MadeM W13 V3 vo K K (overL n K Hl) := by
          rcases him with ⟨h, _⟩ | ⟨_, h⟩
          · rw [rank_gen HOK.out hKn (by omega)] at h
            omega
          · exact h
        have e0 : invE K (pickL (genL n K) K Hl) = 0 := by rw [invE, rank_gen HOK.out hKn (by omega), if_neg (by omega)]
        rw [e0]
        obtain ⟨B5, h51, h52, rfl, hbk5, hl5⟩ := hmd
        rw [← HKQ.out]
        have hbv5 := BytesV.of_blk (c := kk) hbk5 h52
        rw [hl5, ← HKQ.out] at hbv5
        clear HC him z0 z1 z2
        obtain ⟨o15, ho15⟩ : ∃ o, o = (Obj.cells #[.int .i64 (K : Int), .int .i64 (K : Int), .slice (some ⟨B5, 0, none⟩) kk kk] 55) := ⟨_, rfl⟩
        have to15 := Three.new V3 (.int .i64 (K : Int)) (.int .i64 (K : Int)) (.slice (some ⟨B5, 0, none⟩) kk kk) 55
        rw [← ho15] at to15
        have hal := (Below.refl V3.heap.size V3).alloc (Nat.le_refl _) o15
        have hba := cum2 hb3 hal
        have HSGc := Lib.hid (HSGb.out.below hba)
        have HBc := Lib.hid (HBb.out.trans (hba.mono HBb.out.size))
        have HGc := Lib.hid (HGb.out.below hba)
        have HT12c := Lib.hid (HT12b.out.below hba)
        have HOc := Lib.hid (hbv5.below hal)
        have HT15 := Lib.hid to15
        obtain ⟨z0, z1, z2, _, _, _⟩ := to15
        rw [ho15] at z0 z1 z2
        clear hal hba hb3 hbv5 hbk5 hl5 h51 h52 hbtl
        unfold matV
        go_upto_region 18 with fail
        rw [← ho15]
        clear z0 z1 z2 ho15
        generalize V3.alloc o15 = W15 at *
        generalize V3.heap.size = b15 at *
        obtain ⟨y0, y1, y2, _, _, _⟩ := HT12c.out
        obtain ⟨z0, z1, z2, _, _, _⟩ := HT15.out
        -- the product, and what it makes of the texts
        go_wp2_with fail
        have HC := times_any n K K B4 0 nk nk B5 0 kk kk (genL n K) (overL n K Hl) W15 HGc.out HOc.out (genL_len n K) (overL_len n K Hl) (by omega) (by omega) k1 (by omega) k1 (by omega) (Nat.le_refl _) (Nat.le_refl _) (by omega) (by omega)
        unfold matV at HC
        with_reducible refine HC.mono ?_
        rintro e V4 ⟨vm, rfl, hmm, hb4⟩
        obtain ⟨B6, h61, h62, rfl, hbk6, hl6⟩ := hmm
        rw [← HNK.out]
        have hbv6 := BytesV.of_blk (c := nk) hbk6 h62
        rw [hl6, ← HNK.out] at hbv6
        have HV6 := Lib.hid hbv6
        have HL6 := Lib.hid hl6
        have HSGd := Lib.hid (HSGc.out.below hb4)
        have HBd := Lib.hid (HBc.out.trans (hb4.mono HBc.out.size))
        clear HC hb4 hbv6 hbk6 hl6 h61 y0 y1 y2 z0 z1 z2
        unfold matV
        go_wp2_with fail
        have HC := lanes_any n K Z B6 0 nk nk (.slice Ag K cg) (timesL (genL n K) (overL n K Hl) n K K) (givenL Hl l) V4 HV6.out HSGd.out HL6.out (by rw [givenL_len]; exact HKK.out) HGZ.out (by omega) (by omega) (by omega) k1 (by omega) (Nat.le_refl _) (by omega)
        unfold matV at HC
        with_reducible refine HC.mono ?_
        rintro e V5 ⟨r, rfl, hown, hb5⟩
        have HO := Lib.hid (own_base hown HBd.out.size)
        have HBe := Lib.hid (HBd.out.trans (hb5.mono HBd.out.size))
        clear HC hown hb5
        go_wp2_with fail
        go_ret2
        refine ⟨r, by rw [HE.out]; rfl, ?_, HBe.out⟩
        rw [HR.out, applyL_length]
        exact HO.out
end Go.Proofs.Ytijcmdcjjcemfaa
