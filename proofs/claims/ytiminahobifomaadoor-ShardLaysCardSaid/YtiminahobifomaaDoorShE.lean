/- shard.Spelt. -/
import Derived.Test.YtiminahobifomaaDoorShC
import Derived.Test.YtiminahobifomaaDoorShD
import Derived.Test.YtiminahobifomaaDoorShG
import Derived.Test.YtiminahobifomaaDoorShP
import Derived.Test.YtiminahobifomaaDoorMatD
import Derived.Test.YtiminahobifomaaDoorBridge
import Derived.Test.YtiminahobifomaaDoorTextRow
import Derived.Test.YtiminahobifomaaDoorCheck
import Derived.Lib.SlBytesConst
import Derived.Lib.AppendStr
import Derived.RangeFuncBox
import Derived.OrdersHeld
import Derived.Deep.RegionHeld
import Derived.Deep.RegionHeld3
import Derived.Deep.AppendLies
import Derived.Deep.CutBlock
namespace Go.Proofs.YtiminahobifomaaDoor
open Go.ChangeShapes Go.WideShapes Go.ChangeAt Go.RowKit Go.Joins Go.Shelf
set_option linter.unusedVariables false
set_option linter.unusedSimpArgs false
attribute [local go_sem] Oper.semAt_some

theorem strCells_u8 (s : ByteArray) : Lib.strCells s = u8L (bytesOf s) := by simp [Lib.strCells, u8L, bytesOf, Function.comp_def]

theorem step_append_str {P : Program} {w : World} {ops : Array Oper} {o : Oper} {a : Act} {K : Act → World → Prop} {Q : Exit → Act → World → Prop} {E : Prop} (hgd : o.guard = none) (s x : Operand) (t u : TypeId)
    (ho : o.op = .call { callee := .builtin .append, args := #[s, x], argTypes := #[t, u] })
    (base : Nat) (e : TypeId) (i : TypeInfo) (ht : P.underlying t = some (.slice e)) (hu : P.underlying u = some .string) (hi : P.info? e = some i) (hz : i.zero = some (.int .u8 0)) (hsz : i.size = 1) (hby : i.bytes = 1)
    (v : Value) (n : Nat) (xs : List Value) (hs : a.eval s = v) (hown : w.ownsRow base e 1 v n xs) (st : ByteArray) (hx : a.eval x = .string st) (hl : n + st.size ≤ 100000) (hbase : base ≤ w.heap.size)
    (h : ∀ v' w', w'.ownsRow base e 1 v' (n + st.size) (xs ++ Lib.strCells st) → w.grownBy w' v.ownBlock → K (a.put o.dst v') w') :
    if Region.wanted o (yielded ops a.tmps) = true then Oper.wp P o a w K Q else E := by
  have hw : Region.wanted o (yielded ops a.tmps) = true := by simp [Region.wanted, hgd]
  rw [if_pos hw]
  obtain ⟨v', w', hr, h2, h3, _⟩ := Lib.run_append_own_string (P := P) w base t u o.type e i ht hu hi hz hsz hby v n xs hown st (by unfold maxLen; omega) (by omega) hbase
  unfold Oper.wp execOp
  simp only [ho, resolve, invoke, builtin, Sem.run_bind, Sem.run_pure, Result.andThen_ok, List.map_toArray, List.map_cons, List.map_nil, hs, hx, hr]
  exact h v' w' h2 h3

theorem own_conv {w : World} {B : Nat} {v : Value} {n : Nat} {ns : List Nat} (h : w.ownsRow B 5 1 v n (u8L ns)) (h1 : 1 ≤ n) (hn : ns.length = n) :
    ∃ g c, v = .slice (some ⟨g, 0, none⟩) n c ∧ B ≤ g ∧ g < w.heap.size ∧ n ≤ c ∧ c ≤ 9223372036854775807 ∧ (∀ i, i < ns.length → w.cell? ⟨g, 0 + i, none⟩ = some (.int .u8 ((ns.getD i 0 : Nat) : Int))) := by
  rcases h.2 with ⟨_, h0⟩ | ⟨g, cap, cur, rfl, hbg, hg, hnc, hcm, hcs, htake⟩
  · omega
  · refine ⟨g, cap, rfl, hbg, (Array.getElem?_eq_some_iff.1 hg).1, hnc, by unfold maxLen at hcm; omega, fun i hi => ?_⟩
    have hc := h.cells (g := g) rfl i (.int .u8 ((ns.getD i 0 : Nat) : Int)) (by simp [u8L, List.getD_eq_getElem?_getD, List.getElem?_eq_getElem hi])
    rw [Addr.add_lit] at hc
    exact hc
theorem ownFrom_keptS {β : Type} {p : Nat → Prop} {w0 : World} {B : Nat} (hB : w0.heap.size ≤ B) : OwnFrom B (fun (_ : β) W => Kept p w0 W) := fun s W W' row h hg hr =>
  ⟨hg.os.trans h.os, hg.tape.trans h.tape, hg.output.trans h.output, Nat.le_trans h.size hg.size, fun k hk hp => by
    rw [hg.block k (Nat.lt_of_lt_of_le hk h.size) (fun e => by have := (hr k e.symm).1; omega)]; exact h.block k hk hp⟩
theorem own_grownS {W W' : World} {row : Option Nat} {B k n : Nat} {e : TypeId} {v : Value} {xs : List Value} (h : W.ownsRow B e k v n xs) (hg : W.grownBy W' row) (hr : ∀ r, row = some r → ∃ o : Obj, W.heap[r]? = some o ∧ o.isCells = false) : W'.ownsRow B e k v n xs := by
  refine h.kept hg ?_
  rcases h.2 with ⟨rfl, _⟩ | ⟨g, cap, cur, rfl, _, hgb, _⟩
  · exact .inl rfl
  · refine .inr fun e' => ?_
    obtain ⟨o, ho, hc⟩ := hr g (by simpa [Value.ownBlock] using e'.symm)
    rw [hgb] at ho; cases ho; cases hc
theorem boxed_grownS {W W' : World} {row : Option Nat} {B : Nat} {T : TypeId} {v : Value} (h : Boxed W B T v) (hg : W.grownBy W' row) (hr : ∀ r, row = some r → ∃ o : Obj, W.heap[r]? = some o ∧ o.isCells = false) : Boxed W' B T v :=
  h.kept hg fun e => by
    obtain ⟨o, ho, hc⟩ := hr B e.symm
    rw [show W.heap[B]? = _ from h] at ho; cases ho; cases hc
theorem app_belowS {W w1 : World} {o : Obj} {B : Nat} {e : TypeId} {size n : Nat} {v : Value} {xs : List Value} (hB : B ≤ W.heap.size) (hown : W.ownsRow B e size v n xs) (hgrow : (W.alloc o).grownBy w1 v.ownBlock) : Below B W w1 :=
  ((Below.refl B W).alloc hB o).grown hgrow (by simp; omega) (fun k hk => (hown.lt k hk).1)

set_option maxRecDepth 100000 in
set_option maxHeartbeats 4000000 in
theorem spelt_any (st ix g : Nat) (t : ByteArray) (hm : (⟨st, ix, g, t⟩ : Sh).may = true) (w : World) :
    Calls Tryd.prog 21 #[.agg #[.int .i64 (st : Int), .int .i64 (ix : Int), .int .i64 (g : Int), .string t]] w fun e w' => ∃ r, e = .returned r ∧ w'.ownsRow w.heap.size 9 1 r (layS ⟨st, ix, g, t⟩).length ((layS ⟨st, ix, g, t⟩).map Value.string) ∧ Below w.heap.size w w' := by
  obtain ⟨f1, f2, f3, f4, f5⟩ : st ≤ 1073741824 ∧ g ≤ 1073741824 ∧ ix < 14 ∧ 1 ≤ t.size ∧ t.size ≤ 120 := Sh.facts hm
  obtain ⟨i0, hi, hz0, hz1, hz2⟩ := info_parts infoU8sh
  obtain ⟨j0, hj, hy0, hy1, hy2⟩ := info_parts infoStr6
  have kc := fun (w : World) (C : Array Value) (n c : Nat) => Lib.run_convert_bytes_const (P := Tryd.prog) w 37 5 C n c Tryd.underlying37 Tryd.underlying5
  obtain ⟨L, hL⟩ : ∃ L, L = layS ⟨st, ix, g, t⟩ := ⟨_, rfl⟩
  obtain ⟨F, hF⟩ : ∃ F, F = fullL ⟨st, ix, g, t⟩ := ⟨_, rfl⟩
  obtain ⟨BD, hBD⟩ : ∃ BD, BD = bodyL ⟨st, ix, g, t⟩ := ⟨_, rfl⟩
  obtain ⟨m, hsec⟩ : ∃ m, m = secN t.size := ⟨_, rfl⟩
  obtain ⟨z, hz⟩ : ∃ z, z = 64 * m - (23 + t.size) := ⟨_, rfl⟩
  obtain ⟨CR, hCR⟩ : ∃ x, x = Crc.more 0 BD := ⟨_, rfl⟩
  have hfit : 23 + t.size ≤ 64 * m := by rw [hsec]; exact secN_fit _
  have hm3 : m ≤ 3 := by rw [hsec]; exact secN_small f5
  have HBDl : Hid (BD.length = (([83, 72, 82, 68] ++ beL 4 st ++ beL 4 g ++ [ix] ++ beL 2 t.size).length + t.size)) := by
    rw [Hid, hBD, bodyL_len]; simp [beL_len]
  have HBL : Hid (BD.length = 15 + t.size) := by rw [Hid, hBD, bodyL_len]
  have HBD : Hid (([83, 72, 82, 68] ++ beL 4 st ++ beL 4 g ++ [ix] ++ beL 2 t.size) ++ bytesOf t = BD) := by
    have e1 : beL 1 ix = [ix] := by simp [beL, List.range_succ]; omega
    rw [Hid, hBD, bodyL, headL, e1]
  have hCl : CR < 18446744073709551616 := by rw [hCR]; exact Crc.more_lt (by decide) (by rw [hBD]; exact bodyL_lt _)
  have HCR : Hid (moreI 0 (strOf8 BD) = (CR : Int)) := by
    have h := moreI_nat 0 (strOf8 BD)
    rw [bytesOf_strOf8 (by rw [hBD]; exact bodyL_lt _), ← hCR] at h
    exact h
  have HF3 : Hid (F = (BD ++ beL 8 CR) ++ List.replicate z 0) := by rw [Hid, hF, fullL, withSum, ← hBD, sumL, ← hCR, hz, hsec]
  have HFl : Hid (F.length = 64 * m) := by rw [Hid, hF, fullL_len, hsec]
  have HLn : Hid (L.length = m) := by rw [Hid, hL, layS_len, hsec]
  have HLi : Hid (L = (List.range m).map fun i => strOf8 ((F.drop (64 * i)).take 64)) := by rw [Hid, hL, hF, layS, chunksL, hsec]
  have HSEC := Lib.hid hsec
  have HZ := Lib.hid hz
  have HM1 : Hid (1 ≤ m) := by rw [hsec]; exact secN_pos _
  rw [← hL]
  clear hL hF hBD hsec hz hCR
  obtain ⟨o, ho⟩ : ∃ o, o = (Obj.cells #[.int .i64 (st : Int), .int .i64 (ix : Int), .int .i64 (g : Int), .string t] 28) := ⟨_, rfl⟩
  obtain ⟨oR, hoR⟩ : ∃ o, o = (Obj.cells #[.slice none 0 0] 23) := ⟨_, rfl⟩
  have wst : IntKind.u64.wrap (st : Int) = (st : Int) := IntWalk.u64_in _ (by omega)
  have wg : IntKind.u64.wrap (g : Int) = (g : Int) := IntWalk.u64_in _ (by omega)
  have wix : IntKind.u8.wrap (ix : Int) = (ix : Int) := by rw [IntKind.wrap_u8]; omega
  have wn : IntKind.u64.wrap ((t.size : Nat) : Int) = ((t.size : Nat) : Int) := IntWalk.u64_in _ (by omega)
  obtain ⟨hbe, h0, h1, h2, h3⟩ := box4_facts w (.int .i64 (st : Int)) (.int .i64 (ix : Int)) (.int .i64 (g : Int)) (.string t) 28
  rw [← ho] at hbe h0 h1 h2 h3
  have hb2 := hbe.alloc hbe.size oR
  have HX : Hid (∀ W', Below ((w.alloc o).alloc oR).heap.size ((w.alloc o).alloc oR) W' → W'.cell? ⟨w.heap.size, 0, none⟩ = some (.int .i64 (st : Int)) ∧ W'.cell? ⟨w.heap.size, 1, none⟩ = some (.int .i64 (ix : Int)) ∧ W'.cell? ⟨w.heap.size, 2, none⟩ = some (.int .i64 (g : Int)) ∧ W'.cell? ⟨w.heap.size, 3, none⟩ = some (.string t)) := fun W' hW => by
    have hlt : w.heap.size < (w.alloc o).heap.size := by simp
    have hW2 := ((Below.refl (w.alloc o).heap.size (w.alloc o)).alloc (Nat.le_refl _) oR).trans (hW.mono (by simp))
    exact ⟨(hW2.cell (p := ⟨w.heap.size, 0, none⟩) hlt).trans h0, (hW2.cell (p := ⟨w.heap.size, 1, none⟩) hlt).trans h1, (hW2.cell (p := ⟨w.heap.size, 2, none⟩) hlt).trans h2, (hW2.cell (p := ⟨w.heap.size, 3, none⟩) hlt).trans h3⟩
  have HR0 : Hid (Boxed ((w.alloc o).alloc oR) (w.heap.size + 1) 23 (.slice none 0 0)) := by
    have h := Boxed.new (w.alloc o) 23 (.slice none 0 0)
    rw [World.size_alloc, ← hoR] at h
    exact h
  have hsz : ((w.alloc o).alloc oR).heap.size = w.heap.size + 1 + 1 := by simp
  have HB2 := Lib.hid hb2
  have HSZ := Lib.hid hsz
  clear hbe hb2 h0 h1 h2 h3 hsz
  refine callsIn_wide.1 (callsIn_of_wp_marks (n := 10) Tryd.func21 rfl trivial ?_ rfl)
  refine wpIn_wide.2 ?_
  simp only [Tryd.ntmps21, List.size_toArray, List.length_cons, List.length_nil, Nat.reduceAdd, Nat.reduceSub, Array.replicate_succ, Array.replicate_zero, List.push_toArray, List.append_toArray, List.nil_append, List.cons_append]
  go_upto_region 1 with fail
  rw [← ho, ← hoR]
  clear ho hoR
  generalize (w.alloc o).alloc oR = W0 at *
  obtain ⟨B0, hB0⟩ : ∃ b, b = w.heap.size := ⟨_, rfl⟩
  rw [← hB0] at HX HR0 HB2 HSZ ⊢
  have HBw := Lib.hid hB0
  clear hB0
  obtain ⟨B1, hB1⟩ : ∃ B1, B1 = [83, 72, 82, 68] ++ beL 4 st ++ beL 4 g := ⟨_, rfl⟩
  have HB1l : Hid (B1.length = 12) := by rw [Hid, hB1]; simp [beL_len]
  have HB1 := Lib.hid hB1
  clear hB1
  go_cut [3] from 5 to 14 (fun bv wx => Hid (wx.ownsRow W0.heap.size 5 1 bv ([83, 72, 82, 68] ++ beL 4 st ++ beL 4 g).length (u8L ([83, 72, 82, 68] ++ beL 4 st ++ beL 4 g))) ∧ Hid (Below W0.heap.size W0 wx))
  case first =>
    refine wp_mono (Q := OnlyEnd _) ?_ (fun e a w h => by obtain ⟨rfl, h⟩ := h; exact h)
    refine wp_region_held (S := fun W' => Below W0.heap.size W0 W') (by kernel_rfl) ?_
    change wpAnyH _ _ _ _ _ 11 _ _ W0.drew
    have hcum := (Below.refl W0.heap.size W0).drew
    generalize W0.drew = V0 at *
    refine wpAnyH_take (i := 2) (oi := { dst := some 7, op := Op.fieldAddr 28 (Operand.tmp 1) 0, type := 0, pos := "shard.go:52", after := #[], guard := none }) (v := ?_) rfl (by kernel_rfl) (by kernel_rfl) (by kernel_rfl) (fun _ _ _ h => onlyEnd_panic h) (Or.inl ⟨by rfl, fun W' hW' => ?_⟩) hcum ?_
    rotate_left 1
    · go_simp
      try rfl
    try simp only [Act.put, List.setIfInBounds_toArray, List.set_cons_zero, List.set_cons_succ]
    refine wpAnyH_take (i := 3) (oi := { dst := some 8, op := Op.load 3 (Operand.tmp 7), type := 3, pos := "shard.go:52", after := #[{ on := 2, ground := Ground.data }], guard := none }) (v := ?_) rfl (by kernel_rfl) (by kernel_rfl) (by kernel_rfl) (fun _ _ _ h => onlyEnd_panic h) (Or.inl ⟨by rfl, fun W' hW' => ?_⟩) hcum ?_
    rotate_left 1
    · (obtain ⟨x0, x1, x2, x3⟩ := HX.out _ hW'; go_simp)
      try rfl
    try simp only [Act.put, List.setIfInBounds_toArray, List.set_cons_zero, List.set_cons_succ]
    refine wpAnyH_take (i := 4) (oi := { dst := some 9, op := Op.convert 3 51 (Operand.tmp 8), type := 51, pos := "shard.go:52", after := #[{ on := 3, ground := Ground.data }], guard := none }) (v := ?_) rfl (by kernel_rfl) (by kernel_rfl) (by kernel_rfl) (fun _ _ _ h => onlyEnd_panic h) (Or.inl ⟨by rfl, fun W' hW' => ?_⟩) hcum ?_
    rotate_left 1
    · (obtain ⟨x0, x1, x2, x3⟩ := HX.out _ hW'; go_simp)
      try rfl
    try simp only [Act.put, List.setIfInBounds_toArray, List.set_cons_zero, List.set_cons_succ]
    refine wpAnyH_take (i := 6) (oi := { dst := some 11, op := Op.fieldAddr 28 (Operand.tmp 1) 2, type := 0, pos := "shard.go:52", after := #[], guard := none }) (v := ?_) rfl (by kernel_rfl) (by kernel_rfl) (by kernel_rfl) (fun _ _ _ h => onlyEnd_panic h) (Or.inl ⟨by rfl, fun W' hW' => ?_⟩) hcum ?_
    rotate_left 1
    · go_simp
      try rfl
    try simp only [Act.put, List.setIfInBounds_toArray, List.set_cons_zero, List.set_cons_succ]
    refine wpAnyH_take (i := 7) (oi := { dst := some 12, op := Op.load 3 (Operand.tmp 11), type := 3, pos := "shard.go:52", after := #[{ on := 6, ground := Ground.data }], guard := none }) (v := ?_) rfl (by kernel_rfl) (by kernel_rfl) (by kernel_rfl) (fun _ _ _ h => onlyEnd_panic h) (Or.inl ⟨by rfl, fun W' hW' => ?_⟩) hcum ?_
    rotate_left 1
    · (obtain ⟨x0, x1, x2, x3⟩ := HX.out _ hW'; go_simp)
      try rfl
    try simp only [Act.put, List.setIfInBounds_toArray, List.set_cons_zero, List.set_cons_succ]
    refine wpAnyH_take (i := 8) (oi := { dst := some 13, op := Op.convert 3 51 (Operand.tmp 12), type := 51, pos := "shard.go:52", after := #[{ on := 7, ground := Ground.data }], guard := none }) (v := ?_) rfl (by kernel_rfl) (by kernel_rfl) (by kernel_rfl) (fun _ _ _ h => onlyEnd_panic h) (Or.inl ⟨by rfl, fun W' hW' => ?_⟩) hcum ?_
    rotate_left 1
    · (obtain ⟨x0, x1, x2, x3⟩ := HX.out _ hW'; go_simp)
      try rfl
    try simp only [Act.put, List.setIfInBounds_toArray, List.set_cons_zero, List.set_cons_succ]
    refine wpAnyH_ready (rs := [0]) (by kernel_rfl) (by simp) ?_
    refine AllReadyH.cons (o := { dst := some 5, op := Op.buildSlice 37 4 #[(0, Operand.const (Value.int IntKind.u8 83)), (1, Operand.const (Value.int IntKind.u8 72)), (2, Operand.const (Value.int IntKind.u8 82)), (3, Operand.const (Value.int IntKind.u8 68))], type := 37, pos := "shard.go:52", after := #[], guard := none }) rfl (fun KK hK => ?_) AllReadyH.nil
    rw [if_pos (by rfl)]
    go_simp
    have hcv := kc V0 #[.int .u8 83, .int .u8 72, .int .u8 82, .int .u8 68] 4 4
    have hbe := (Below.refl V0.heap.size V0).alloc (Nat.le_refl _) (.cells #[.int .u8 83, .int .u8 72, .int .u8 82, .int .u8 68] 5)
    have hbeM := (Below.refl V0.heap.size V0).alloc (Nat.le_refl _) (.cells #[.int .u8 83, .int .u8 72, .int .u8 82, .int .u8 68] 5 (4, 5))
    have hcs : ∀ j u, (u8L [83, 72, 82, 68])[j]? = some u → (V0.alloc (.cells #[.int .u8 83, .int .u8 72, .int .u8 82, .int .u8 68] 5 (4, 5))).cell? ⟨V0.heap.size, j, none⟩ = some u := fun j u hu => by
      rw [cell_of_row _ _ _ _ _ _ (heap_alloc_new V0 _)]
      simpa [u8L] using hu
    have hltM : V0.heap.size < (V0.alloc (.cells #[.int .u8 83, .int .u8 72, .int .u8 82, .int .u8 68] 5 (4, 5))).heap.size := by simp
    have hcumM := hcum.trans (hbeM.mono hcum.size)
    replace hcum := hcum.trans (hbe.mono hcum.size)
    refine hK.out _ _ hcum (fun _ => ?_)
    clear hK hbe hbeM kc
    replace hcv : (convert 37 37 (.slice (some ⟨V0.heap.size, 0, none⟩) 4 4)).run Tryd.prog (V0.alloc (.cells #[.int .u8 83, .int .u8 72, .int .u8 82, .int .u8 68] 5)) = .ok (.slice (some ⟨V0.heap.size, 0, none⟩) 4 4) (V0.alloc (.cells #[.int .u8 83, .int .u8 72, .int .u8 82, .int .u8 68] 5 (4, 5))) := hcv
    generalize V0.alloc (.cells #[.int .u8 83, .int .u8 72, .int .u8 82, .int .u8 68] 5 (4, 5)) = V2 at *
    generalize V0.alloc (.cells #[.int .u8 83, .int .u8 72, .int .u8 82, .int .u8 68] 5) = V1 at *
    generalize V0.heap.size = bl at *
    try simp only [Act.put, List.setIfInBounds_toArray, List.set_cons_zero, List.set_cons_succ]
    refine wpAnyH_ready (rs := [1]) (by kernel_rfl) (by simp) ?_
    refine AllReadyH.cons (o := { dst := some 6, op := Op.convert 37 37 (Operand.tmp 5), type := 37, pos := "shard.go:52", after := #[{ on := 0, ground := Ground.data }], guard := none }) rfl (fun KK hK => ?_) AllReadyH.nil
    rw [if_pos (by rfl)]
    go_simp
    refine hK.out _ _ hcumM (fun _ => ?_)
    clear hK hcv hcum
    have hcum := hcumM
    clear hcumM
    try simp only [Act.put, List.setIfInBounds_toArray, List.set_cons_zero, List.set_cons_succ]
    refine wpAnyH_ready (rs := [5]) (by kernel_rfl) (by simp) ?_
    refine AllReadyH.cons (o := { dst := some 10, op := Op.call { callee := Callee.value (Operand.func 34), args := #[Operand.tmp 6, Operand.tmp 9, Operand.const (Value.int IntKind.i64 4)], argTypes := #[37, 51, 3] }, type := 37, pos := "shard.go:52", after := #[{ on := 1, ground := Ground.data }, { on := 4, ground := Ground.data }], guard := none }) rfl (fun KK hK => ?_) AllReadyH.nil
    rw [if_pos (by rfl)]
    go_simp
    refine (put_first bl [83, 72, 82, 68] st 4 V2 hcs hltM (by omega) (by omega) (by omega) (by simp) (by simp)).mono ?_
    rintro e V3 ⟨r1, rfl, hor1, hbe0⟩
    obtain ⟨Ar1, cr1, rfl⟩ := own_shape hor1
    replace hor1 := own_base hor1 hcum.size
    have hbe : Below W0.heap.size V2 V3 := hbe0.mono hcum.size
    clear hcs hltM hbe0
    have hcum := hcum.trans hbe
    refine hK.out _ _ hcum (fun _ => ?_)
    clear hK hbe
    try simp only [Act.put, List.setIfInBounds_toArray, List.set_cons_zero, List.set_cons_succ]
    refine wpAnyH_ready (rs := [9]) (by kernel_rfl) (by simp) ?_
    refine AllReadyH.cons (o := { dst := some 14, op := Op.call { callee := Callee.value (Operand.func 34), args := #[Operand.tmp 10, Operand.tmp 13, Operand.const (Value.int IntKind.i64 4)], argTypes := #[37, 51, 3] }, type := 37, pos := "shard.go:52", after := #[{ on := 5, ground := Ground.data }, { on := 8, ground := Ground.data }, { on := 5, ground := Ground.chain }], guard := none }) rfl (fun KK hK => ?_) AllReadyH.nil
    rw [if_pos (by rfl)]
    go_simp
    have hsw := hcum.size
    refine (put_any _ W0.heap.size ([83, 72, 82, 68] ++ beL 4 st) g 4 V3 hsw (by exact hor1) (by omega) (by omega) (by omega) (by simp [beL_len, HB1l.out])).mono ?_
    rintro e V4 ⟨r2, rfl, hor2, hbe0⟩
    obtain ⟨Ar2, cr2, rfl⟩ := own_shape hor2
    have hbe : Below W0.heap.size V3 V4 := hbe0
    clear hsw hbe0
    have hcum := hcum.trans hbe
    refine hK.out _ _ hcum (fun _ => ?_)
    clear hK hbe
    try simp only [Act.put, List.setIfInBounds_toArray, List.set_cons_zero, List.set_cons_succ]
    refine wpAnyH_take (i := 10) (oi := { dst := some 3, op := Op.assign (Operand.tmp 14), type := 37, pos := "shard.go:52", after := #[{ on := 9, ground := Ground.data }, { on := 9, ground := Ground.chain }, { on := 0, ground := Ground.phase }, { on := 1, ground := Ground.phase }, { on := 2, ground := Ground.phase }, { on := 3, ground := Ground.phase }, { on := 4, ground := Ground.phase }, { on := 5, ground := Ground.phase }, { on := 6, ground := Ground.phase }, { on := 7, ground := Ground.phase }, { on := 8, ground := Ground.phase }, { on := 9, ground := Ground.phase }], guard := none }) (v := ?_) rfl (by kernel_rfl) (by kernel_rfl) (by kernel_rfl) (fun _ _ _ h => onlyEnd_panic h) (Or.inl ⟨by rfl, fun W' hW' => ?_⟩) hcum ?_
    rotate_left 1
    · go_simp
      try rfl
    try simp only [Act.put, List.setIfInBounds_toArray, List.set_cons_zero, List.set_cons_succ]
    refine wpAnyH_done (by kernel_rfl) ⟨rfl, ?_⟩ _
    go_wp2_with fail
    go_meet
    exact ⟨Lib.hid hor2, Lib.hid hcum⟩
  case rest =>
    obtain ⟨HO1, HC1⟩ := hcut
    rw [← HB1.out] at HO1 HBDl HBD
    obtain ⟨A1, c1, rfl⟩ := own_shape HO1.out
    obtain ⟨w1, rfl⟩ : ∃ x : World, x = wc := ⟨_, rfl⟩
    clear kc
    go_upto_region 2 with fail
    go_cut [3] from 15 to 28 (fun bv wx => Hid (wx.ownsRow W0.heap.size 5 1 bv BD.length (u8L BD)) ∧ Hid (Below W0.heap.size W0 wx))
    case first =>
      refine wp_mono (Q := OnlyEnd _) ?_ (fun e a w h => by obtain ⟨rfl, h⟩ := h; exact h)
      refine wp_region_held (S := fun W' => Below W0.heap.size W0 W') (by kernel_rfl) ?_
      change wpAnyH _ _ _ _ _ 15 _ _ w1.drew
      have hcum := HC1.out.drew
      have hown := HO1.out.drew
      generalize w1.drew = V0 at *
      refine wpAnyH_take (i := 0) (oi := { dst := some 15, op := Op.move (Operand.tmp 3), type := 37, pos := "shard.go:53", after := #[], guard := none }) (v := ?_) rfl (by kernel_rfl) (by kernel_rfl) (by kernel_rfl) (fun _ _ _ h => onlyEnd_panic h) (Or.inl ⟨by rfl, fun W' hW' => ?_⟩) hcum ?_
      rotate_left 1
      · go_simp
        try rfl
      try simp only [Act.put, List.setIfInBounds_toArray, List.set_cons_zero, List.set_cons_succ]
      refine wpAnyH_take (i := 1) (oi := { dst := some 16, op := Op.fieldAddr 28 (Operand.tmp 1) 1, type := 0, pos := "shard.go:53", after := #[], guard := none }) (v := ?_) rfl (by kernel_rfl) (by kernel_rfl) (by kernel_rfl) (fun _ _ _ h => onlyEnd_panic h) (Or.inl ⟨by rfl, fun W' hW' => ?_⟩) hcum ?_
      rotate_left 1
      · go_simp
        try rfl
      try simp only [Act.put, List.setIfInBounds_toArray, List.set_cons_zero, List.set_cons_succ]
      refine wpAnyH_take (i := 2) (oi := { dst := some 17, op := Op.load 3 (Operand.tmp 16), type := 3, pos := "shard.go:53", after := #[{ on := 1, ground := Ground.data }], guard := none }) (v := ?_) rfl (by kernel_rfl) (by kernel_rfl) (by kernel_rfl) (fun _ _ _ h => onlyEnd_panic h) (Or.inl ⟨by rfl, fun W' hW' => ?_⟩) hcum ?_
      rotate_left 1
      · (obtain ⟨x0, x1, x2, x3⟩ := HX.out _ hW'; go_simp)
        try rfl
      try simp only [Act.put, List.setIfInBounds_toArray, List.set_cons_zero, List.set_cons_succ]
      refine wpAnyH_take (i := 3) (oi := { dst := some 18, op := Op.convert 3 5 (Operand.tmp 17), type := 5, pos := "shard.go:53", after := #[{ on := 2, ground := Ground.data }], guard := none }) (v := ?_) rfl (by kernel_rfl) (by kernel_rfl) (by kernel_rfl) (fun _ _ _ h => onlyEnd_panic h) (Or.inl ⟨by rfl, fun W' hW' => ?_⟩) hcum ?_
      rotate_left 1
      · (obtain ⟨x0, x1, x2, x3⟩ := HX.out _ hW'; go_simp)
        try rfl
      try simp only [Act.put, List.setIfInBounds_toArray, List.set_cons_zero, List.set_cons_succ]
      refine wpAnyH_take (i := 6) (oi := { dst := some 21, op := Op.fieldAddr 28 (Operand.tmp 1) 3, type := 0, pos := "shard.go:53", after := #[], guard := none }) (v := ?_) rfl (by kernel_rfl) (by kernel_rfl) (by kernel_rfl) (fun _ _ _ h => onlyEnd_panic h) (Or.inl ⟨by rfl, fun W' hW' => ?_⟩) hcum ?_
      rotate_left 1
      · go_simp
        try rfl
      try simp only [Act.put, List.setIfInBounds_toArray, List.set_cons_zero, List.set_cons_succ]
      refine wpAnyH_take (i := 7) (oi := { dst := some 22, op := Op.load 9 (Operand.tmp 21), type := 9, pos := "shard.go:53", after := #[{ on := 6, ground := Ground.data }], guard := none }) (v := ?_) rfl (by kernel_rfl) (by kernel_rfl) (by kernel_rfl) (fun _ _ _ h => onlyEnd_panic h) (Or.inl ⟨by rfl, fun W' hW' => ?_⟩) hcum ?_
      rotate_left 1
      · (obtain ⟨x0, x1, x2, x3⟩ := HX.out _ hW'; go_simp)
        try rfl
      try simp only [Act.put, List.setIfInBounds_toArray, List.set_cons_zero, List.set_cons_succ]
      refine wpAnyH_take (i := 8) (oi := { dst := some 23, op := Op.call { callee := Callee.builtin Builtin.len, args := #[Operand.tmp 22], argTypes := #[9] }, type := 3, pos := "shard.go:53", after := #[{ on := 7, ground := Ground.data }], guard := none }) (v := ?_) rfl (by kernel_rfl) (by kernel_rfl) (by kernel_rfl) (fun _ _ _ h => onlyEnd_panic h) (Or.inl ⟨by rfl, fun W' hW' => ?_⟩) hcum ?_
      rotate_left 1
      · go_simp
        try rfl
      try simp only [Act.put, List.setIfInBounds_toArray, List.set_cons_zero, List.set_cons_succ]
      refine wpAnyH_take (i := 9) (oi := { dst := some 24, op := Op.convert 3 51 (Operand.tmp 23), type := 51, pos := "shard.go:53", after := #[{ on := 8, ground := Ground.data }], guard := none }) (v := ?_) rfl (by kernel_rfl) (by kernel_rfl) (by kernel_rfl) (fun _ _ _ h => onlyEnd_panic h) (Or.inl ⟨by rfl, fun W' hW' => ?_⟩) hcum ?_
      rotate_left 1
      · (obtain ⟨x0, x1, x2, x3⟩ := HX.out _ hW'; go_simp)
        try rfl
      try simp only [Act.put, List.setIfInBounds_toArray, List.set_cons_zero, List.set_cons_succ]
      refine wpAnyH_take (i := 11) (oi := { dst := some 26, op := Op.fieldAddr 28 (Operand.tmp 1) 3, type := 0, pos := "shard.go:53", after := #[], guard := none }) (v := ?_) rfl (by kernel_rfl) (by kernel_rfl) (by kernel_rfl) (fun _ _ _ h => onlyEnd_panic h) (Or.inl ⟨by rfl, fun W' hW' => ?_⟩) hcum ?_
      rotate_left 1
      · go_simp
        try rfl
      try simp only [Act.put, List.setIfInBounds_toArray, List.set_cons_zero, List.set_cons_succ]
      refine wpAnyH_take (i := 12) (oi := { dst := some 27, op := Op.load 9 (Operand.tmp 26), type := 9, pos := "shard.go:53", after := #[{ on := 11, ground := Ground.data }], guard := none }) (v := ?_) rfl (by kernel_rfl) (by kernel_rfl) (by kernel_rfl) (fun _ _ _ h => onlyEnd_panic h) (Or.inl ⟨by rfl, fun W' hW' => ?_⟩) hcum ?_
      rotate_left 1
      · (obtain ⟨x0, x1, x2, x3⟩ := HX.out _ hW'; go_simp)
        try rfl
      try simp only [Act.put, List.setIfInBounds_toArray, List.set_cons_zero, List.set_cons_succ]
      refine wpAnyH_ready (rs := [4]) (by kernel_rfl) (by simp) ?_
      refine AllReadyH.cons (o := { dst := some 19, op := Op.buildSlice 37 1 #[(0, Operand.tmp 18)], type := 37, pos := "shard.go:53", after := #[{ on := 3, ground := Ground.data }], guard := none }) rfl (fun KK hK => ?_) AllReadyH.nil
      rw [if_pos (by rfl)]
      go_simp
      have hbe := (Below.refl W0.heap.size V0).alloc hcum.size (.cells #[.int .u8 (ix : Int)] 5)
      have hl1 := cell_one_new' V0 (.int .u8 (ix : Int)) 5
      replace hown := hown.alloc (.cells #[.int .u8 (ix : Int)] 5)
      replace hcum := hcum.trans hbe
      refine hK.out _ _ hcum (fun _ => ?_)
      clear hK hbe
      generalize V0.alloc (.cells #[.int .u8 (ix : Int)] 5) = V1 at *
      generalize V0.heap.size = bl at *
      try simp only [Act.put, List.setIfInBounds_toArray, List.set_cons_zero, List.set_cons_succ]
      refine wpAnyH_ready (rs := [5]) (by kernel_rfl) (by simp) ?_
      refine AllReadyH.cons (o := { dst := some 20, op := Op.call { callee := Callee.builtin Builtin.append, args := #[Operand.tmp 15, Operand.tmp 19], argTypes := #[37, 37] }, type := 37, pos := "shard.go:53", after := #[{ on := 0, ground := Ground.data }, { on := 4, ground := Ground.data }], guard := none }) rfl (fun KK hK => ?_) AllReadyH.nil
      have hB0w := hcum.size
      refine step_append_lies _ (by rfl) _ _ _ (by rfl) W0.heap.size 5 i0 _ 1 1 Tryd.underlying37 hi hz0 hz1 hz2 rfl (by decide) _ _ _ (by rfl) hown ⟨bl, 0, none⟩ 1 1 [.int .u8 (ix : Int)] (by simp [Act.eval]) (by rfl) hl1 (by intro u hu; simp at hu; subst hu; rfl) (by omega) (by rw [HB1l.out]; unfold maxLen; omega) (by rw [HB1l.out]; omega) (by omega) V1.heap.size rfl ?_
      intro g2 cap2 V2 hown' hgrow hat hltg
      have hbg : Below W0.heap.size V1 V2 := (Below.refl W0.heap.size V1).grown hgrow hcum.size (fun k hk => (hown.lt k hk).1)
      replace hcum := hcum.trans hbg
      clear hown hgrow hat hltg hB0w hl1
      have hown := hown'
      clear hown'
      refine hK.out _ _ hcum (fun _ => ?_)
      clear hK hbg
      try simp only [Act.put, List.setIfInBounds_toArray, List.set_cons_zero, List.set_cons_succ]
      refine wpAnyH_ready (rs := [10]) (by kernel_rfl) (by simp) ?_
      refine AllReadyH.cons (o := { dst := some 25, op := Op.call { callee := Callee.value (Operand.func 34), args := #[Operand.tmp 20, Operand.tmp 24, Operand.const (Value.int IntKind.i64 2)], argTypes := #[37, 51, 3] }, type := 37, pos := "shard.go:53", after := #[{ on := 5, ground := Ground.data }, { on := 9, ground := Ground.data }, { on := 5, ground := Ground.chain }], guard := none }) rfl (fun KK hK => ?_) AllReadyH.nil
      rw [if_pos (by rfl)]
      go_simp
      have hsw := hcum.size
      refine (put_any _ W0.heap.size (B1 ++ [ix]) t.size 2 V2 hsw (by rw [u8L_app, List.length_append]; exact hown) (by omega) (by omega) (by omega) (by simp [beL_len, HB1l.out])).mono ?_
      rintro e V3 ⟨r3, rfl, hor3, hbe0⟩
      obtain ⟨Ar3, cr3, rfl⟩ := own_shape hor3
      have hbe : Below W0.heap.size V2 V3 := hbe0
      clear hsw hbe0
      have hcum := hcum.trans hbe
      refine hK.out _ _ hcum (fun _ => ?_)
      clear hK hbe
      try simp only [Act.put, List.setIfInBounds_toArray, List.set_cons_zero, List.set_cons_succ]
      refine wpAnyH_ready (rs := [13]) (by kernel_rfl) (by simp) ?_
      refine AllReadyH.cons (o := { dst := some 28, op := Op.call { callee := Callee.builtin Builtin.append, args := #[Operand.tmp 25, Operand.tmp 27], argTypes := #[37, 9] }, type := 37, pos := "shard.go:53", after := #[{ on := 10, ground := Ground.data }, { on := 12, ground := Ground.data }, { on := 10, ground := Ground.chain }], guard := none }) rfl (fun KK hK => ?_) AllReadyH.nil
      have hB0w := hcum.size
      refine step_append_str (by rfl) _ _ 37 9 (by rfl) W0.heap.size 5 i0 Tryd.underlying37 Tryd.underlying9 hi hz0 hz1 hz2 _ _ _ (by rfl) hor3 t (by rfl) (by simp [beL_len, HB1l.out]; omega) hB0w ?_
      intro v4 V4 hown' hgrow
      have hbg : Below W0.heap.size V3 V4 := (Below.refl W0.heap.size V3).grown hgrow hB0w (fun k hk => (hor3.lt k hk).1)
      replace hcum := hcum.trans hbg
      clear hor3 hgrow hB0w
      refine hK.out _ _ hcum (fun _ => ?_)
      clear hK hbg
      try simp only [Act.put, List.setIfInBounds_toArray, List.set_cons_zero, List.set_cons_succ]
      refine wpAnyH_take (i := 14) (oi := { dst := some 3, op := Op.assign (Operand.tmp 28), type := 37, pos := "shard.go:53", after := #[{ on := 13, ground := Ground.data }, { on := 13, ground := Ground.chain }, { on := 0, ground := Ground.phase }, { on := 1, ground := Ground.phase }, { on := 2, ground := Ground.phase }, { on := 3, ground := Ground.phase }, { on := 4, ground := Ground.phase }, { on := 5, ground := Ground.phase }, { on := 6, ground := Ground.phase }, { on := 7, ground := Ground.phase }, { on := 8, ground := Ground.phase }, { on := 9, ground := Ground.phase }, { on := 10, ground := Ground.phase }, { on := 11, ground := Ground.phase }, { on := 12, ground := Ground.phase }, { on := 13, ground := Ground.phase }], guard := none }) (v := ?_) rfl (by kernel_rfl) (by kernel_rfl) (by kernel_rfl) (fun _ _ _ h => onlyEnd_panic h) (Or.inl ⟨by rfl, fun W' hW' => ?_⟩) hcum ?_
      rotate_left 1
      · go_simp
        try rfl
      try simp only [Act.put, List.setIfInBounds_toArray, List.set_cons_zero, List.set_cons_succ]
      refine wpAnyH_done (by kernel_rfl) ⟨rfl, ?_⟩ _
      go_wp2_with fail
      go_meet
      exact ⟨Lib.hid (by have h := hown'; rw [strCells_u8, ← u8L_app, HBD.out, ← HBDl.out] at h; exact h), Lib.hid hcum⟩
    case rest =>
      obtain ⟨HO2, HC2⟩ := hcut
      obtain ⟨w2, rfl⟩ : ∃ x : World, x = wc := ⟨_, rfl⟩
      have hbl := HBL.out
      obtain ⟨g2, c2, rfl, hg1, hg2, _, _, hcc⟩ := own_conv HO2.out (by omega) rfl
      have hcv := convert_bytes (P := Tryd.prog) (w := w2) (b := g2) (off := 0) (cap := c2) (ns := BD) Tryd.underlying37 Tryd.underlying5 Tryd.underlying9 hcc
      have hw2 := HC2.out.size
      clear hcc hbl
      go_wp2_with fail
      refine (of_any (strOf8 BD) _ (by rw [strOf8_size, HBL.out]; unfold maxLen; omega)).mono ?_
      rintro e w' ⟨rfl, rfl⟩
      rw [HCR.out]
      go_wp2_with fail
      refine (put_any _ W0.heap.size BD CR 8 w2 hw2 HO2.out hCl (by omega) (by omega) (by rw [HBL.out]; omega)).mono ?_
      rintro e w3 ⟨r3, rfl, ho3, hb3⟩
      obtain ⟨A3, c3, rfl⟩ := own_shape ho3
      have HC3 := Lib.hid (HC2.out.trans hb3)
      obtain ⟨x0, x1, x2, x3⟩ := HX.out _ HC3.out
      obtain ⟨B3, hB3⟩ : ∃ B3, B3 = BD ++ beL 8 CR := ⟨_, rfl⟩
      have HB3l : Hid (B3.length = 23 + t.size) := by rw [Hid, hB3, List.length_append, beL_len, HBL.out]; omega
      rw [← hB3] at ho3 HF3 ⊢
      have HO3 := Lib.hid ho3
      have wq1 : IntKind.i64.wrap ((m : Int) * 64) = (m : Int) * 64 := IntWalk.i64_in _ (by omega)
      have wq2 : IntKind.i64.wrap ((m : Int) * 64 - ((B3.length : Nat) : Int)) = (z : Int) := by have := HB3l.out; have := HZ.out; rw [IntWalk.i64_in _ (by omega)]; omega
      clear hcv hb3 ho3 hB3 x0 x1 x2 hw2
      go_wp2_with fail
      refine (sized_any t.size _ (by omega)).mono ?_
      rintro e w' ⟨rfl, rfl⟩
      rw [← HSEC.out]
      go_wp2_with (at_builtin; refine wpList_append_zeros_own rfl _ _ W0.heap.size 37 3 5 i0 .i64 rfl Tryd.underlying37 Tryd.underlying3 hi hz0 hz1 hz2 _ _ _ rfl HO3.out z rfl ?c1 ?c2 ?c3 ?_)
      case c1 => rw [HB3l.out]; omega
      case c2 => have := HZ.out; rw [HB3l.out]; omega
      case c3 => exact HC3.out.size
      intro v4 w4 ho4 hgrow
      have hb4 : Below W0.heap.size w3 w4 := (Below.refl W0.heap.size w3).grown hgrow HC3.out.size (fun k hk => (HO3.out.lt k hk).1)
      have HC4 := Lib.hid (HC3.out.trans hb4)
      have ho5 : w4.ownsRow W0.heap.size 5 1 v4 F.length (u8L F) := by
        rw [HF3.out, u8L_app, List.length_append, List.length_replicate]
        have e : u8L (List.replicate z 0) = List.replicate z (.int .u8 0) := by simp [u8L]
        rw [e]
        exact ho4
      have hfl := HFl.out
      have hm1 := HM1.out
      obtain ⟨g4, c4, rfl, hg4a, hg4b, hnc, hcm, hcells⟩ := own_conv ho5 (by omega) rfl
      obtain ⟨X, hX⟩ : ∃ X, X = w4.heap.size := ⟨_, rfl⟩
      obtain ⟨n4, hn4⟩ : ∃ n4, n4 = F.length := ⟨_, rfl⟩
      have hcb0 := (Below.refl w4.heap.size w4).alloc (Nat.le_refl _) (.cells #[.slice (some ⟨g4, 0, none⟩) F.length c4] 37)
      have hcb := hcb0.alloc (by simp) (.cells #[.int .i64 64] 3)
      have hsz5 : ((w4.alloc (.cells #[.slice (some ⟨g4, 0, none⟩) F.length c4] 37)).alloc (.cells #[.int .i64 64] 3)).heap.size = w4.heap.size + 1 + 1 := by simp
      have q0 : ((w4.alloc (.cells #[.slice (some ⟨g4, 0, none⟩) F.length c4] 37)).alloc (.cells #[.int .i64 64] 3)).cell? ⟨w4.heap.size, 0, none⟩ = some (.slice (some ⟨g4, 0, none⟩) F.length c4) := ((Boxed.new w4 37 (.slice (some ⟨g4, 0, none⟩) F.length c4)).alloc _).cell
      have q1 : ((w4.alloc (.cells #[.slice (some ⟨g4, 0, none⟩) F.length c4] 37)).alloc (.cells #[.int .i64 64] 3)).cell? ⟨w4.heap.size + 1, 0, none⟩ = some (.int .i64 64) := by
        have h := Boxed.new (w4.alloc (.cells #[.slice (some ⟨g4, 0, none⟩) F.length c4] 37)) 3 (.int .i64 64)
        rw [World.size_alloc] at h
        exact h.cell
      clear ho4 ho5 hgrow hb4 hcb0 x3 wq1 wq2
      have HCE := Lib.hid hcells
      clear hcells hfl
      go_wp2_with fail
      refine (chunk_any g4 0 F.length c4 _).mono ?_
      rintro e w' ⟨rfl, rfl⟩
      rw [← hn4] at hcb hsz5 q0 q1 hnc ⊢
      generalize (w4.alloc (.cells #[.slice (some ⟨g4, 0, none⟩) n4 c4] 37)).alloc (.cells #[.int .i64 64] 3) = W5 at *
      have HC5 := Lib.hid (HC4.out.trans (hcb.mono HC4.out.size))
      have HCE5 : Hid (∀ W', Below W5.heap.size W5 W' → ∀ i, i < F.length → W'.cell? ⟨g4, 0 + i, none⟩ = some (.int .u8 ((F.getD i 0 : Nat) : Int))) := fun W' hW i hi' => by
        rw [hW.cell (p := ⟨g4, 0 + i, none⟩) (Nat.lt_of_lt_of_le hg4b hcb.size), hcb.cell (p := ⟨g4, 0 + i, none⟩) hg4b]
        exact HCE.out i hi'
      have HR5 : Hid (Boxed W5 (B0 + 1) 23 (.slice none 0 0)) := by
        have hlt := Boxed.lt HR0.out
        exact (HC5.out.block (B0 + 1) hlt).trans HR0.out
      have HF4 : Hid (n4 = 64 * m) := by rw [Hid, hn4]; exact HFl.out
      rw [← hX] at q0 q1 hsz5 ⊢
      have hXs : X < W5.heap.size := by omega
      have hXs1 : X + 1 < W5.heap.size := by omega
      have hRlt := Boxed.lt HR0.out
      have hRX : B0 + 1 < X := by have := HC4.out.size; omega
      have hgX : g4 < W5.heap.size := by omega
      have hgR : g4 ≠ B0 + 1 := by omega
      have HFB := Lib.hid hn4
      clear hn4 hX hcb hg4b HCE
      have HCH := Lib.hid (chunk1_stops X (X + 1) g4 0 m n4 c4 W5 hXs hXs1 q0 q1 HF4.out (by omega) hnc hcm)
      clear q0 q1 hnc hcm
      go_wp2_with fail
      refine (wpIn_wide (n := 10)).1 ?_
      apply wpIn_rangeFunc_ownF (α := Fin m) (encs := encChunk g4 0) (Kp := KeepsTwo X (X + 1)) (S := fun xs => xs = finL m m (Nat.le_refl m)) (Sp := fun pre => ∃ j, ∃ h : j ≤ m, pre = finL m j h) (N := m) (w0 := W5) rfl (by omega) (gf := 51) (lb := #[.pointer (some ⟨X, 0, none⟩), .pointer (some ⟨X + 1, 0, none⟩)]) rfl trivial (enters_of Tryd.func51 (by kernel_rfl) rfl)
        HCH.out keepsTwo_t (keepsTwo_b hXs hXs1) (Below.refl _ _) (fun _ => rfl)
        (fun pre W => (∃ v, Boxed W (B0 + 1) 23 v ∧ W.ownsRow W5.heap.size 9 1 v pre.length (pre.map fun i => Value.string (strOf8 ((F.drop (64 * i.1)).take 64)))) ∧ Kept (fun k => k = B0 + 1) W5 W)
        (fun _ _ _ => False)
        (OwnFrom.and (fun s A A' row hs hg hr => by obtain ⟨v, p1, p2⟩ := hs; exact ⟨v, boxed_grownS p1 hg (fun r e => (hr r e).2), own_grownS p2 hg (fun r e => (hr r e).2)⟩) (ownFrom_keptS (Nat.le_refl _)))
        (fun _ s A A' row hs _ _ => hs)
        ⟨⟨_, HR5.out, World.ownsRow_nil _ _ _ _⟩, Kept.refl _ _⟩
      case hassign =>
        intro l x W K hK
        gi_wp2
        exact hK
      case hbody =>
        rintro l pre x W ⟨⟨v, hv, hown⟩, hk⟩ hpl
        obtain ⟨x, hx⟩ := x
        dsimp only
        have l0 := hv.cell
        have hcs : ∀ i, i < ((F.drop (64 * x)).take 64).length → W.cell? ⟨g4, 64 * x + i, none⟩ = some (.int .u8 ((((F.drop (64 * x)).take 64).getD i 0 : Nat) : Int)) := fun i hi' => by
          have hlen : ((F.drop (64 * x)).take 64).length = 64 := by have := HFl.out; rw [List.length_take, List.length_drop]; omega
          rw [hlen] at hi'
          have h1 := HCE5.out W5 (Below.refl _ _) (64 * x + i) (by have := HFl.out; omega)
          rw [hk.cell (d := ⟨g4, 64 * x + i, none⟩) hgX hgR]
          rw [Nat.zero_add] at h1
          rw [h1]
          congr 2
          simp only [List.getD_eq_getElem?_getD]
          rw [List.getElem?_take_of_lt hi', List.getElem?_drop]
        have hlen : ((F.drop (64 * x)).take 64).length = 64 := by have := HFl.out; rw [List.length_take, List.length_drop]; omega
        have hcv := convert_bytes (P := Tryd.prog) (w := W) (b := g4) (off := 64 * x) (cap := 64) (ns := (F.drop (64 * x)).take 64) Tryd.underlying37 Tryd.underlying5 Tryd.underlying9 hcs
        rw [hlen] at hcv
        have hsW := hk.size
        have HSN : Hid (((pre ++ [(⟨x, hx⟩ : Fin m)]).map fun i => Value.string (strOf8 ((F.drop (64 * i.1)).take 64))) = (pre.map fun i => Value.string (strOf8 ((F.drop (64 * i.1)).take 64))) ++ [.string (strOf8 ((F.drop (64 * x)).take 64))]) := by rw [Hid, List.map_append]; rfl
        generalize strOf8 ((F.drop (64 * x)).take 64) = cur at *
        clear hcs hlen
        have hwrs : W5.heap.size ≤ W.heap.size := hsW
        gi_wp2_with (first | (gi_at_builtin; refine wpListIn_append_own _ rfl _ _ 23 rfl W5.heap.size 9 j0 (.string ByteArray.empty) 1 16 Tryd.underlying23 hj hy0 hy1 hy2 rfl (by decide) _ _ _ rfl (hown.alloc _) ⟨W.heap.size, 0, none⟩ 1 1 [.string cur] rfl rfl (cell_one_new' _ _ _) (by simp [Value.oneCell']) (by unfold maxLen; omega) (by omega) (by simp; omega) ?_; intro v' w1 hown' hgrow _; obtain ⟨g', cap', rfl⟩ := ownsRow_succ hown'; obtain ⟨hv1, hv2, hr2, hk2, hb2⟩ := Boxed.appended hv (by decide) (own_base hown (by omega : B0 + 1 ≤ W5.heap.size)) (by omega) (by omega) (own_base hown' (by omega : B0 + 1 ≤ W5.heap.size)) hgrow; have hb4 := app_belowS hwrs hown hgrow; have hc1 := hv1.cell; have hf1 := hv1.frozen))
        have kT : ∀ B, B < W5.heap.size → B ≠ B0 + 1 → (w1.setCell ⟨B0 + 1, 0, none⟩ (.slice (some ⟨g', 0, none⟩) (pre.length + 1) cap')).heap[B]? = W.heap[B]? := fun B h1 h2 => by
          rw [Below.heap_setCell _ _ _ _ (by dsimp only; omega), hb4.block B h1]
        have hk4 : Kept (fun k => k = B0 + 1) W5 w1 := hk.trans_new (q := fun j => W5.heap.size ≤ j) ⟨hb4.os, hb4.tape, hb4.output, hb4.size, fun k hk hp => hb4.block k (by omega)⟩ (fun j h1 h2 => by omega)
        refine ⟨hk2, ⟨hb2.size, kT X hXs (by omega), kT (X + 1) hXs1 (by omega)⟩, ⟨_, hv2, ?_⟩, hk4.setCell (fun _ => rfl) _⟩
        have h9 := own_cell hown' (d := ⟨B0 + 1, 0, none⟩) (u := .slice (some ⟨g', 0, none⟩) (pre.length + 1) cap') (by dsimp only; omega)
        rw [HSN.out, List.length_append]
        exact h9
      case hdone =>
        rintro D xs W hD rfl ⟨⟨v, hv, hown⟩, hk⟩ hK
        have hrow : (finL m m (Nat.le_refl m)).map (fun i => Value.string (strOf8 ((F.drop (64 * i.1)).take 64))) = L.map Value.string := by
          rw [HLi.out, ← finL_val m m (Nat.le_refl m), List.map_map, List.map_map]
          rfl
        rw [hrow, finL_length, ← HLn.out] at hown
        obtain ⟨Av, cv, rfl⟩ := own_shape hown
        have HV := Lib.hid hv
        have l0 := hv.cell
        have f0 := hv.frozen
        have HOW := Lib.hid hown
        have HKD := Lib.hid hK
        have HKW := Lib.hid hk
        clear hrow hown hK hk hv
        go_wp2_with fail
        try rw [Exit.noGoto_ret]
        have hK1 := (KeepsOthers.setCell W ⟨B0 + 1, 0, none⟩ (.slice Av L.length cv)).same _ _ HKD.out rfl
        refine ⟨by simp, .inl ⟨_, _, rfl, run_takeDeferred hK1, ?_⟩⟩
        have hc1 := (boxed_grownS (HV.out.set (.slice Av L.length cv)) (grownBy_putObj' _ D (.deferred none)) (fun r e => by cases e; exact ⟨_, hK1, rfl⟩)).cell
        have hD0 : B0 ≤ W5.heap.size := by omega
        have hbe := ((HB2.out.trans (HC5.out.mono (by have := HSZ.out; omega))).trans (HKW.out.below hD0 (fun k hk e => by omega))).setCell (p := ⟨B0 + 1, 0, none⟩) (by dsimp only; omega) (.slice Av L.length cv)
        have hre : ((W.setCell ⟨B0 + 1, 0, none⟩ (.slice Av L.length cv)).putObj D (.deferred none)).ownsRow B0 9 1 (.slice Av L.length cv) L.length (L.map Value.string) :=
          ownsRow_putObj (own_base (own_cell HOW.out (d := ⟨B0 + 1, 0, none⟩) (u := (.slice Av L.length cv)) (by dsimp only; omega)) hD0) _ hK1 rfl
        have hbf := hbe.trans (belowK_b (w := W5) hD0 _ _ _ (.deferred none) hD hK1 rfl rfl)
        refine ⟨(.slice Av L.length cv), ?_, (.slice Av L.length cv), rfl, by rw [← HBw.out]; exact hre, by rw [← HBw.out]; exact hbf⟩
        simp [results, Tryd.f21, go_sem, hc1]
      case hstop =>
        rintro D c pre W _ _ h _
        exact h.elim
end Go.Proofs.YtiminahobifomaaDoor
