/- Small shapes; texts that are changed. -/
import Derived.Test.YtijcmdcjjcemfaaPkA25
import Derived.Test.YtijcmdcjjcemfaaPkA14
import Derived.Test.YtijcmdcjjcemfaaPkA26
import Derived.Test.YtijcmdcjjcemfaaPkA06
import Derived.OrdersHeld
import Derived.Deep.RegionHeld
import Derived.Deep.RegionHeld3
import Derived.Deep.CutBlock
import Derived.Test.YtijcmdcjjcemfaaPkA21
import Derived.Test.YtijcmdcjjcemfaaPkA22
namespace Go.Proofs.Ytijcmdcjjcemfaa
open Go.ChangeShapes Go.WideShapes Go.ChangeAt Go.RowKit Go.Joins
set_option linter.unusedVariables false
set_option linter.unusedSimpArgs false

theorem unlN_set (X L : List ByteArray) (k : Nat) (T : ByteArray) : ∀ i, i ≤ k → unlN X (L.set k T) i = unlN X L i
  | 0, _ => rfl
  | i + 1, h => by
    have e : (L.set k T).getD i ByteArray.empty = L.getD i ByteArray.empty := by simp [List.getD, List.getElem?_set, show k ≠ i by omega]
    rw [unlN, unlN, unlN_set X L k T i (by omega), e]
theorem unlN_step (X L : List ByteArray) (k : Nat) (T : ByteArray) (hk : k < L.length) (hT : X.getD k ByteArray.empty ≠ T) : unlN X (L.set k T) (k + 1) = unlN X L k ++ [(k : Int)] := by
  have e : (L.set k T).getD k ByteArray.empty = T := by simp [List.getD, List.getElem?_set, hk]
  rw [unlN, unlN_set X L k T k (Nat.le_refl _), e, if_neg hT]
theorem unlN_rest (X L : List ByteArray) (k : Nat) : ∀ j, (∀ i, k ≤ i → i < k + j → X.getD i ByteArray.empty = L.getD i ByteArray.empty) → unlN X L (k + j) = unlN X L k
  | 0, _ => rfl
  | j + 1, h => by
    have e : k + (j + 1) = (k + j) + 1 := by omega
    rw [e, unlN, unlN_rest X L k j (fun i h1 h2 => h i h1 (by omega)), if_pos (h (k + j) (by omega) (by omega))]
theorem unlN_le (X L : List ByteArray) (i : Nat) : (unlN X L i).length ≤ i := by have := unl_cnt X L i i (Nat.le_refl i); omega
theorem strOf_ne {s : ByteArray} {y : Nat} (hs : 1 ≤ s.size) (hy : y < 256) (hne : y ≠ (bytesOf s).getD 0 0) : s ≠ strOf8 ((bytesOf s).set 0 y) := fun h => by
  have h1 := congrArg (fun t => (bytesOf t).getD 0 0) h
  have h2 : (bytesOf (strOf8 ((bytesOf s).set 0 y))).getD 0 0 = y := by
    have hl : 0 < (bytesOf s).length := by rw [bytesOf_length]; exact hs
    rw [bytesOf_get]
    simp [byN, strOf8, hl]
    omega
  exact hne (h2.symm.trans h1.symm)
theorem xor_other {a c : Nat} (h0 : 1 ≤ c) : a ^^^ c ≠ a := fun h => by
  have h1 : a ^^^ (a ^^^ c) = a ^^^ a := by rw [h]
  rw [← Nat.xor_assoc, Nat.xor_self, Nat.zero_xor] at h1
  omega

set_option maxRecDepth 100000 in
set_option maxHeartbeats 4000000 in
theorem small_any (k m z : Int) (w : World) :
    Calls Try.prog 7 #[.agg #[.int .i64 k, .int .i64 m, .int .i64 z]] w fun e w' => e = .returned (.agg #[.int .i64 (1 + withinI k 3), .int .i64 (withinI m 5), .int .i64 (1 + withinI z 3)]) ∧ Below w.heap.size w w' := by
  obtain ⟨x, hx⟩ : ∃ x, withinI k 3 = x := ⟨_, rfl⟩
  obtain ⟨y, hy⟩ : ∃ y, withinI m 5 = y := ⟨_, rfl⟩
  obtain ⟨q, hq⟩ : ∃ q, withinI z 3 = q := ⟨_, rfl⟩
  have hxb := within_bd k 3 (by omega) (by omega)
  have hyb := within_bd m 5 (by omega) (by omega)
  have hqb := within_bd z 3 (by omega) (by omega)
  rw [hx] at hxb
  rw [hy] at hyb
  rw [hq] at hqb
  have w1 : IntKind.i64.wrap (1 + x) = 1 + x := IntWalk.i64_in _ (by omega)
  have w2 : IntKind.i64.wrap (1 + q) = 1 + q := IntWalk.i64_in _ (by omega)
  have HX := Lib.hid hx
  have HY := Lib.hid hy
  have HQ := Lib.hid hq
  clear hx hy hq
  obtain ⟨oA, hoA⟩ : ∃ o, o = (Obj.cells #[.int .i64 k, .int .i64 m, .int .i64 z] 29) := ⟨_, rfl⟩
  obtain ⟨oB, hoB⟩ : ∃ o, o = (Obj.cells #[.int .i64 0, .int .i64 0, .int .i64 0] 29) := ⟨_, rfl⟩
  have tA := Three.new w (.int .i64 k) (.int .i64 m) (.int .i64 z) 29
  rw [← hoA] at tA
  have tA2 := tA.alloc oB
  have t4 := Three.new (w.alloc oA) (.int .i64 0) (.int .i64 0) (.int .i64 0) 29
  rw [← hoB, World.size_alloc] at t4
  have hb2 := ((Below.refl w.heap.size w).alloc (Nat.le_refl _) oA).alloc (by simp) oB
  obtain ⟨b4, hb4⟩ : ∃ b, b = w.heap.size + 1 := ⟨_, rfl⟩
  rw [← hb4] at t4
  have hsz : ((w.alloc oA).alloc oB).heap.size = b4 + 1 := by simp; omega
  have hne : ¬ (w.heap.size = b4) := by omega
  have hb4w : w.heap.size ≤ ((w.alloc oA).alloc oB).heap.size ∧ w.heap.size < b4 := by omega
  have TA := Lib.hid tA2
  have T4 := Lib.hid t4
  have HB2 := Lib.hid hb2
  clear tA tA2 t4 hb2
  go_enter Try.func7, Try.ntmps7
  go_upto_region 1 with fail
  rw [← hoA, ← hoB, ← hb4]
  clear hoA hoB hb4
  generalize (w.alloc oA).alloc oB = W2 at *
  refine wp_region_held (S := fun W' => Kept (fun j => j = b4) W2 W') (by kernel_rfl) ?_
  change wpAnyH _ _ _ _ _ 13 _ _ W2.drew
  have hcum := (Kept.refl (fun j => j = b4) W2).drew
  have t4 := T4.out.drewS
  obtain ⟨u0, u1, u2, u3, u4, u5⟩ := id t4
  generalize W2.drew = V0 at *
  refine wpAnyH_take (i := 0) (oi := { dst := some 3, op := Op.fieldAddr 29 (Operand.tmp 1) 0, type := 0, pos := "law.go:25", after := #[], guard := none }) (v := ?_) rfl (by kernel_rfl) (by kernel_rfl) (by kernel_rfl) (fun _ _ _ h => h) (Or.inl ⟨by rfl, fun W' hW' => ?_⟩) hcum ?_
  rotate_left 1
  · go_simp
    try rfl
  try simp only [Act.put, List.setIfInBounds_toArray, List.set_cons_zero, List.set_cons_succ]
  refine wpAnyH_take (i := 1) (oi := { dst := some 4, op := Op.load 3 (Operand.tmp 3), type := 3, pos := "law.go:25", after := #[{ on := 0, ground := Ground.data }], guard := none }) (v := ?_) rfl (by kernel_rfl) (by kernel_rfl) (by kernel_rfl) (fun _ _ _ h => h) (Or.inl ⟨by rfl, fun W' hW' => ?_⟩) hcum ?_
  rotate_left 1
  · (obtain ⟨a0, a1, a2, _, _, _⟩ := TA.out.below' hW' hne; go_simp)
    try rfl
  try simp only [Act.put, List.setIfInBounds_toArray, List.set_cons_zero, List.set_cons_succ]
  refine wpAnyH_take (i := 4) (oi := { dst := some 7, op := Op.fieldAddr 29 (Operand.tmp 1) 1, type := 0, pos := "law.go:25", after := #[], guard := none }) (v := ?_) rfl (by kernel_rfl) (by kernel_rfl) (by kernel_rfl) (fun _ _ _ h => h) (Or.inl ⟨by rfl, fun W' hW' => ?_⟩) hcum ?_
  rotate_left 1
  · go_simp
    try rfl
  try simp only [Act.put, List.setIfInBounds_toArray, List.set_cons_zero, List.set_cons_succ]
  refine wpAnyH_take (i := 5) (oi := { dst := some 8, op := Op.load 3 (Operand.tmp 7), type := 3, pos := "law.go:25", after := #[{ on := 4, ground := Ground.data }], guard := none }) (v := ?_) rfl (by kernel_rfl) (by kernel_rfl) (by kernel_rfl) (fun _ _ _ h => h) (Or.inl ⟨by rfl, fun W' hW' => ?_⟩) hcum ?_
  rotate_left 1
  · (obtain ⟨a0, a1, a2, _, _, _⟩ := TA.out.below' hW' hne; go_simp)
    try rfl
  try simp only [Act.put, List.setIfInBounds_toArray, List.set_cons_zero, List.set_cons_succ]
  refine wpAnyH_take (i := 7) (oi := { dst := some 10, op := Op.fieldAddr 29 (Operand.tmp 1) 2, type := 0, pos := "law.go:25", after := #[], guard := none }) (v := ?_) rfl (by kernel_rfl) (by kernel_rfl) (by kernel_rfl) (fun _ _ _ h => h) (Or.inl ⟨by rfl, fun W' hW' => ?_⟩) hcum ?_
  rotate_left 1
  · go_simp
    try rfl
  try simp only [Act.put, List.setIfInBounds_toArray, List.set_cons_zero, List.set_cons_succ]
  refine wpAnyH_take (i := 8) (oi := { dst := some 11, op := Op.load 3 (Operand.tmp 10), type := 3, pos := "law.go:25", after := #[{ on := 7, ground := Ground.data }], guard := none }) (v := ?_) rfl (by kernel_rfl) (by kernel_rfl) (by kernel_rfl) (fun _ _ _ h => h) (Or.inl ⟨by rfl, fun W' hW' => ?_⟩) hcum ?_
  rotate_left 1
  · (obtain ⟨a0, a1, a2, _, _, _⟩ := TA.out.below' hW' hne; go_simp)
    try rfl
  try simp only [Act.put, List.setIfInBounds_toArray, List.set_cons_zero, List.set_cons_succ]
  refine wpAnyH_ready (rs := [2]) (by kernel_rfl) (by simp) ?_
  refine AllReadyH.cons (o := { dst := some 5, op := Op.call { callee := Callee.value (Operand.func 21), args := #[Operand.tmp 4, Operand.const (Value.int IntKind.i64 3)], argTypes := #[3, 3] }, type := 3, pos := "law.go:25", after := #[{ on := 1, ground := Ground.data }], guard := none }) rfl (fun KK hK => ?_) AllReadyH.nil
  rw [if_pos (by rfl)]
  go_simp
  refine (within_any k 3 V0 (by omega) (by omega)).mono ?_
  rintro e V1 ⟨rfl, hVV⟩
  have hbe : Below V0.heap.size V0 V1 := hVV ▸ Below.refl _ _
  clear hVV
  rw [HX.out]
  replace t4 := t4.below hbe
  clear u0 u1 u2 u3 u4 u5
  obtain ⟨u0, u1, u2, u3, u4, u5⟩ := id t4
  have hcum := hcum.trans (Kept.of_below hbe)
  refine hK.out _ _ hcum (fun _ => ?_)
  clear hK hbe
  try simp only [Act.put, List.setIfInBounds_toArray, List.set_cons_zero, List.set_cons_succ]
  refine wpAnyH_take (i := 3) (oi := { dst := some 6, op := Op.binOp BinOp.add 3 (Operand.const (Value.int IntKind.i64 1)) (Operand.tmp 5) 3, type := 3, pos := "law.go:25", after := #[{ on := 2, ground := Ground.data }], guard := none }) (v := ?_) rfl (by kernel_rfl) (by kernel_rfl) (by kernel_rfl) (fun _ _ _ h => h) (Or.inl ⟨by rfl, fun W' hW' => ?_⟩) hcum ?_
  rotate_left 1
  · go_simp
    try rfl
  try simp only [Act.put, List.setIfInBounds_toArray, List.set_cons_zero, List.set_cons_succ]
  refine wpAnyH_ready (rs := [6]) (by kernel_rfl) (by simp) ?_
  refine AllReadyH.cons (o := { dst := some 9, op := Op.call { callee := Callee.value (Operand.func 21), args := #[Operand.tmp 8, Operand.const (Value.int IntKind.i64 5)], argTypes := #[3, 3] }, type := 3, pos := "law.go:25", after := #[{ on := 5, ground := Ground.data }, { on := 2, ground := Ground.chain }], guard := none }) rfl (fun KK hK => ?_) AllReadyH.nil
  rw [if_pos (by rfl)]
  go_simp
  refine (within_any m 5 V1 (by omega) (by omega)).mono ?_
  rintro e V2 ⟨rfl, hVV⟩
  have hbe : Below V1.heap.size V1 V2 := hVV ▸ Below.refl _ _
  clear hVV
  rw [HY.out]
  replace t4 := t4.below hbe
  clear u0 u1 u2 u3 u4 u5
  obtain ⟨u0, u1, u2, u3, u4, u5⟩ := id t4
  have hcum := hcum.trans (Kept.of_below hbe)
  refine hK.out _ _ hcum (fun _ => ?_)
  clear hK hbe
  try simp only [Act.put, List.setIfInBounds_toArray, List.set_cons_zero, List.set_cons_succ]
  refine wpAnyH_ready (rs := [9]) (by kernel_rfl) (by simp) ?_
  refine AllReadyH.cons (o := { dst := some 12, op := Op.call { callee := Callee.value (Operand.func 21), args := #[Operand.tmp 11, Operand.const (Value.int IntKind.i64 3)], argTypes := #[3, 3] }, type := 3, pos := "law.go:25", after := #[{ on := 8, ground := Ground.data }, { on := 6, ground := Ground.chain }], guard := none }) rfl (fun KK hK => ?_) AllReadyH.nil
  rw [if_pos (by rfl)]
  go_simp
  refine (within_any z 3 V2 (by omega) (by omega)).mono ?_
  rintro e V3 ⟨rfl, hVV⟩
  have hbe : Below V2.heap.size V2 V3 := hVV ▸ Below.refl _ _
  clear hVV
  rw [HQ.out]
  replace t4 := t4.below hbe
  clear u0 u1 u2 u3 u4 u5
  obtain ⟨u0, u1, u2, u3, u4, u5⟩ := id t4
  have hcum := hcum.trans (Kept.of_below hbe)
  refine hK.out _ _ hcum (fun _ => ?_)
  clear hK hbe
  try simp only [Act.put, List.setIfInBounds_toArray, List.set_cons_zero, List.set_cons_succ]
  refine wpAnyH_take (i := 10) (oi := { dst := some 13, op := Op.binOp BinOp.add 3 (Operand.const (Value.int IntKind.i64 1)) (Operand.tmp 12) 3, type := 3, pos := "law.go:25", after := #[{ on := 9, ground := Ground.data }], guard := none }) (v := ?_) rfl (by kernel_rfl) (by kernel_rfl) (by kernel_rfl) (fun _ _ _ h => h) (Or.inl ⟨by rfl, fun W' hW' => ?_⟩) hcum ?_
  rotate_left 1
  · go_simp
    try rfl
  try simp only [Act.put, List.setIfInBounds_toArray, List.set_cons_zero, List.set_cons_succ]
  refine wpAnyH_take (i := 11) (oi := { dst := some 14, op := Op.build 29 #[(0, Operand.tmp 6), (1, Operand.tmp 9), (2, Operand.tmp 13)], type := 29, pos := "law.go:25", after := #[{ on := 3, ground := Ground.data }, { on := 6, ground := Ground.data }, { on := 10, ground := Ground.data }], guard := none }) (v := ?_) rfl (by kernel_rfl) (by kernel_rfl) (by kernel_rfl) (fun _ _ _ h => h) (Or.inl ⟨by rfl, fun W' hW' => ?_⟩) hcum ?_
  rotate_left 1
  · go_simp
    try rfl
  try simp only [Act.put, List.setIfInBounds_toArray, List.set_cons_zero, List.set_cons_succ]
  refine wpAnyH_ready (rs := [12]) (by kernel_rfl) (by simp) ?_
  refine AllReadyH.cons (o := { dst := none, op := Op.store 29 (Operand.tmp 2) (Operand.tmp 14), type := 0, pos := "law.go:25", after := #[{ on := 11, ground := Ground.data }, { on := 9, ground := Ground.chain }, { on := 0, ground := Ground.phase }, { on := 1, ground := Ground.phase }, { on := 2, ground := Ground.phase }, { on := 3, ground := Ground.phase }, { on := 4, ground := Ground.phase }, { on := 5, ground := Ground.phase }, { on := 6, ground := Ground.phase }, { on := 7, ground := Ground.phase }, { on := 8, ground := Ground.phase }, { on := 9, ground := Ground.phase }, { on := 10, ground := Ground.phase }, { on := 11, ground := Ground.phase }], guard := none }) rfl (fun KK hK => ?_) AllReadyH.nil
  rw [if_pos (by rfl)]
  go_simp
  clear u0 u1 u2 u3 u4 u5
  have t4 := three_put t4 (.int .i64 (1 + x)) (.int .i64 y) (.int .i64 (1 + q))
  have hcum := ((hcum.setCell (d := ⟨b4, 0, none⟩) (fun _ => rfl) (.int .i64 (1 + x))).setCell (d := ⟨b4, 1, none⟩) (fun _ => rfl) (.int .i64 y)).setCell (d := ⟨b4, 2, none⟩) (fun _ => rfl) (.int .i64 (1 + q))
  refine hK.out _ _ hcum (fun _ => ?_)
  clear hK
  generalize (((V3.setCell ⟨b4, 0, none⟩ (.int .i64 (1 + x))).setCell ⟨b4, 1, none⟩ (.int .i64 y)).setCell ⟨b4, 2, none⟩ (.int .i64 (1 + q))) = V4 at *
  try simp only [Act.put, List.setIfInBounds_toArray, List.set_cons_zero, List.set_cons_succ]
  refine wpAnyH_done (by kernel_rfl) ?_ _
  obtain ⟨u0, u1, u2, _, _, _⟩ := id t4
  have HBe := Lib.hid (HB2.out.trans (hcum.below hb4w.1 (fun j hj e => by omega)))
  clear hcum
  go_wp2_with fail
  refine bodyPost_ret (v := .agg #[.int .i64 (1 + x), .int .i64 y, .int .i64 (1 + q)]) (by simp [results, Try.results7, go_sem, *]) rfl ⟨by rw [HX.out, HY.out, HQ.out], HBe.out⟩
end Go.Proofs.Ytijcmdcjjcemfaa

/- What the page tries, plainly: places that were chosen, what comes of them. -/

namespace Go.Proofs.Ytijcmdcjjcemfaa
open Go.ChangeShapes Go.WideShapes Go.ChangeAt Go.RowKit Go.Joins
set_option linter.unusedVariables false
set_option linter.unusedSimpArgs false

/-- The numbers of those that are there. -/
def posT (bs : List Bool) : Nat → List Int
  | 0 => []
  | i + 1 => if bs.getD i false = true then posT bs i ++ [(i : Int)] else posT bs i
theorem posT_len (bs : List Bool) : ∀ i, (posT bs i).length = cntT bs i
  | 0 => rfl
  | i + 1 => by
    rw [posT, cntT, ← posT_len bs i]
    split <;> simp
theorem posT_mem {bs : List Bool} : ∀ {i : Nat} {z : Int}, z ∈ posT bs i ↔ ∃ k : Nat, z = (k : Int) ∧ k < i ∧ bs.getD k false = true
  | 0, z => ⟨fun h => (by cases h), fun ⟨k, _, h, _⟩ => absurd h (by omega)⟩
  | i + 1, z => by
    rw [posT]
    constructor
    · intro h
      split at h
      · rename_i hb
        rcases List.mem_append.1 h with h | h
        · obtain ⟨k, h1, h2, h3⟩ := posT_mem.1 h; exact ⟨k, h1, by omega, h3⟩
        · rw [List.mem_singleton] at h; exact ⟨i, h, by omega, hb⟩
      · obtain ⟨k, h1, h2, h3⟩ := posT_mem.1 h; exact ⟨k, h1, by omega, h3⟩
    · rintro ⟨k, h1, h2, h3⟩
      by_cases hk : k = i
      · subst hk
        rw [if_pos h3]
        exact List.mem_append.2 (.inr (List.mem_singleton.2 h1))
      · have hm : z ∈ posT bs i := posT_mem.2 ⟨k, h1, by omega, h3⟩
        split
        · exact List.mem_append.2 (.inl hm)
        · exact hm
theorem posT_head (T U : List Bool) : ∀ i, i ≤ T.length → posT (T ++ U) i = posT T i
  | 0, _ => rfl
  | i + 1, h => by
    have e : (T ++ U).getD i false = T.getD i false := by simp [List.getD, List.getElem?_append, show i < T.length by omega]
    rw [posT, posT, posT_head T U i (by omega), e]
theorem posT_yes (T : List Bool) : posT (T ++ [true]) (T ++ [true]).length = posT T T.length ++ [(T.length : Int)] := by
  have e : (T ++ [true]).getD T.length false = true := by simp [List.getD]
  rw [List.length_append, List.length_singleton, posT, if_pos e, posT_head T _ _ (Nat.le_refl _)]
theorem posT_no (T : List Bool) : posT (T ++ [false]) (T ++ [false]).length = posT T T.length := by
  have e : ¬ (T ++ [false]).getD T.length false = true := by simp [List.getD]
  rw [List.length_append, List.length_singleton, posT, if_neg e, posT_head T _ _ (Nat.le_refl _)]
theorem posT_tail (T : List Bool) : ∀ r, posT (T ++ List.replicate r false) (T ++ List.replicate r false).length = posT T T.length
  | 0 => by rw [List.replicate_zero, List.append_nil]
  | r + 1 => by rw [List.replicate_succ', ← List.append_assoc, posT_no, posT_tail T r]
theorem cntT_tail (T : List Bool) (r : Nat) : cntT (T ++ List.replicate r false) (T.length + r) = cntT T T.length := by
  have h := posT_tail T r
  rw [List.length_append, List.length_replicate] at h
  rw [← posT_len, ← posT_len, h]
/-- Just these are there. -/
def markL (n : Nat) (zs : List Int) : List Bool := (List.range n).map fun i : Nat => decide ((i : Int) ∈ zs)
theorem markL_len (n : Nat) (zs : List Int) : (markL n zs).length = n := by simp [markL]
theorem markL_nil (n : Nat) : markL n [] = List.replicate n false := by
  apply List.ext_getElem <;> simp [markL]
theorem markL_snoc {n q : Nat} (h : q < n) {zs : List Int} : markL n (zs ++ [(q : Int)]) = (markL n zs).set q true := by
  apply List.ext_getElem
  · simp [markL]
  · intro i h1 h2
    rw [List.getElem_set]
    by_cases e : q = i
    · subst e; simp [markL]
    · rw [if_neg e]
      have : ¬ ((i : Int) = (q : Int)) := by omega
      simp [markL, this]
theorem markL_posT (T : List Bool) (r : Nat) : markL (T.length + r) (posT T T.length) = T ++ List.replicate r false := by
  apply List.ext_getElem
  · simp [markL]
  · intro i h1 h2
    have e : (markL (T.length + r) (posT T T.length))[i] = decide ((i : Int) ∈ posT T T.length) := by simp [markL]
    rw [e]
    by_cases hi : i < T.length
    · rw [List.getElem_append_left hi]
      cases hb : T[i] with
      | true => exact decide_eq_true (posT_mem.2 ⟨i, rfl, hi, by simp [List.getD, hi, hb]⟩)
      | false =>
        refine decide_eq_false (fun h => ?_)
        obtain ⟨k, h1, h2, h3⟩ := posT_mem.1 h
        have : k = i := by omega
        subst this
        simp [List.getD, hi, hb] at h3
    · rw [List.getElem_append_right (by omega), List.getElem_replicate]
      refine decide_eq_false (fun h => ?_)
      obtain ⟨k, h1, h2, _⟩ := posT_mem.1 h
      omega

/-- What is tried behind a beginning. -/
def tryF (n K M Z : Nat) (l : List ByteArray) (T : List Bool) (r m : Nat) : Option (List ByteArray) := (chooseL r m).findSome? (fun t => nearR n K M Z l (T ++ t))
theorem tryF_leaf {n K M Z : Nat} {l : List ByteArray} {T : List Bool} {r : Nat} : tryF n K M Z l T r 0 = nearR n K M Z l (T ++ List.replicate r false) := by
  rw [tryF, choose_none, List.findSome?_cons]
  cases nearR n K M Z l (T ++ List.replicate r false) <;> rfl
theorem tryF_step {n K M Z : Nat} {l : List ByteArray} {T : List Bool} {r m : Nat} : tryF n K M Z l T (r + 1) (m + 1) = (tryF n K M Z l (T ++ [true]) r m).or (tryF n K M Z l (T ++ [false]) r (m + 1)) := by
  rw [tryF, chooseL, List.findSome?_append, List.findSome?_map, List.findSome?_map]
  simp [tryF, Function.comp_def, List.append_assoc]
theorem tryF_all {n K M Z : Nat} {l : List ByteArray} : tryF n K M Z l [] n K = tryL n K M Z l := by simp [tryF, tryL]
def TryR (B : Nat) (W : World) (x y : Value) (n : Nat) (l : List ByteArray) : Option (List ByteArray) → Prop
  | none => True
  | some c => W.ownsRow B 9 1 x c.length (c.map Value.string) ∧ W.ownsRow B 3 1 y (unlN l c n).length (i64s (unlN l c n))
theorem TryR.mono {B B' : Nat} {W : World} {x y : Value} {n : Nat} {l : List ByteArray} {G : Option (List ByteArray)} (h : TryR B W x y n l G) (hb : B' ≤ B) : TryR B' W x y n l G := by
  cases G with
  | none => trivial
  | some c => exact ⟨World.ownsRow.mono h.1 hb, World.ownsRow.mono h.2 hb⟩

end Go.Proofs.Ytijcmdcjjcemfaa
