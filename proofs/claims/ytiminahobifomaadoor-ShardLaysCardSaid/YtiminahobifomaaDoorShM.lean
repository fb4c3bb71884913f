/- siloref11.Unlay. -/
import Derived.Test.YtiminahobifomaaDoorShK
import Derived.Test.YtiminahobifomaaDoorShI
namespace Go.Proofs.YtiminahobifomaaDoor
open Go.ChangeShapes Go.WideShapes Go.ChangeAt Go.RowKit Go.Joins Go.Shelf
set_option linter.unusedVariables false
set_option linter.unusedSimpArgs false

theorem Cell4.put3 {w : World} {B : Nat} {a b c d : Value} (h : Cell4 w B a b c d) (d' : Value) : Cell4 (w.setCell ⟨B, 3, none⟩ d') B a b c d' := by
  refine ⟨?_, ?_, ?_, ?_, by simp only [World.frozen?_setCell]; exact h.f0, by simp only [World.frozen?_setCell]; exact h.f1, by simp only [World.frozen?_setCell]; exact h.f2, by simp only [World.frozen?_setCell]; exact h.f3⟩
  · rw [World.cell?_setCell_other _ _ _ _ (by simp)]; exact h.c0
  · rw [World.cell?_setCell_other _ _ _ _ (by simp)]; exact h.c1
  · rw [World.cell?_setCell_other _ _ _ _ (by simp)]; exact h.c2
  · exact World.cell?_setCell_same' _ _ _ (by rw [h.c3]; rfl)
/-- The texts so far, of 64 bytes each. -/
def Upto (l : List ByteArray) (k : Nat) (u : ByteArray) : Prop := u.size = 64 * k ∧ u = strOf8 (joinB (l.take k)) ∧ ∀ x ∈ l.take k, x.size = 64

set_option maxRecDepth 100000 in
set_option maxHeartbeats 4000000 in
theorem unlay_any (v : Value) (l : List ByteArray) (w : World) (h : Strs6 w v l) (hl : l.length ≤ 100000) :
    Calls Tryd.prog 32 #[v] w fun e w' => e = .returned (.tuple #[takeV (takeO l), .bool (takeO l).isSome]) ∧ Below w.heap.size w w' := by
  obtain ⟨A, c, rfl⟩ := h.shape
  obtain ⟨oR, hoR⟩ : ∃ x, x = (Obj.cells #[.int .i64 0, .int .i64 0, .int .i64 0, .string ⟨#[]⟩] 28) := ⟨_, rfl⟩
  have tR := Cell4.new w (.int .i64 0) (.int .i64 0) (.int .i64 0) (.string ⟨#[]⟩) 28
  rw [← hoR] at tR
  have hb0 := (Below.refl w.heap.size w).alloc (Nat.le_refl _) oR
  have HL1 := Lib.hid (h.below hb0)
  have HT := Lib.hid tR
  have HB := Lib.hid hb0
  clear h tR hb0
  go_enter Tryd.func32, Tryd.ntmps32
  go_wp2_with fail
  rw [← hoR]
  clear hoR
  generalize w.alloc oR = W0 at *
  go_loopw [4, 5] (fun tv iv wr => ∃ (k : Nat) (u : ByteArray), tv = .string u ∧ iv = .int .i64 (k : Int) ∧ k ≤ l.length ∧ Hid (Upto l k u) ∧ Hid (Below W0.heap.size W0 wr)) (fun _ i _ => l.length - (intOf i).toNat)
  case atStart => exact ⟨0, ⟨#[]⟩, rfl, rfl, by omega, ⟨rfl, rfl, by simp⟩, Below.refl _ _⟩
  case round =>
    obtain ⟨k, u, rfl, rfl, hk, HU, HWR⟩ := hrel
    have HTr := Lib.hid (HT.out.below HWR.out)
    have HLr := Lib.hid (HL1.out.below HWR.out)
    have HBr := Lib.hid (HB.out.trans (HWR.out.mono HB.out.size))
    by_cases hgo : k < l.length ∧ 64 * k ≤ 1000
    · obtain ⟨hlt, hk2⟩ := hgo
      have d1 : decide ((k : Int) < (l.length : Int)) = true := decide_eq_true (by omega)
      have d2 : decide (((u.size : Nat) : Int) ≤ 1000) = true := decide_eq_true (by have := HU.out.1; omega)
      obtain ⟨b, off, rfl, hbl, hcell⟩ := HLr.out.at_ hlt
      have HS : Hid (l[k]'hlt ∈ l) := List.getElem_mem hlt
      have HU2 : Hid ((l[k]'hlt).size = 64 → Upto l (k + 1) (u ++ l[k]'hlt)) := fun h64 => by
        obtain ⟨u1, u2, u3⟩ := HU.out
        have e : l.take (k + 1) = l.take k ++ [l[k]'hlt] := List.take_succ_eq_append_getElem hlt
        refine ⟨by rw [ByteArray.size_append, u1, h64]; omega, ?_, ?_⟩
        · rw [e, joinB_snoc, strOf8_app, strOf8_of, ← u2]
        · intro x hx
          rw [e] at hx
          rcases List.mem_append.1 hx with h | h
          · exact u3 x h
          · simp at h; rw [h]; exact h64
      have j0 : (0 : Int) ≤ (k : Int) := by omega
      have j1 : (k : Int) < (l.length : Int) := by omega
      have hus : u.size ≤ 1000 := by have := HU.out.1; omega
      generalize l[k]'hlt = s at *
      by_cases h64 : s.size = 64
      · have HN := Lib.hid (HU2.out h64)
        have d3 : (((s.size : Nat) : Int) != 64) = false := by rw [h64]; rfl
        have q1 : ¬ (9223372036854775807 < u.size + s.size) := by omega
        have wk : IntKind.i64.wrap ((k : Int) + 1) = (k : Int) + 1 := IntWalk.i64_in _ (by omega)
        clear h64 HU2 hus
        go_wp2_with fail
        go_roundw
        case rel => exact ⟨k + 1, _, rfl, by go_num, hlt, HN, HWR⟩
        case measure => simp [intOf]; omega
      · have d3 : (((s.size : Nat) : Int) != 64) = true := by rw [bne_iff_ne]; omega
        have H64 := Lib.hid h64
        clear h64 hus
        have hnn := HTr.out
        obtain ⟨r0, r1, r2, r3, r4, r5, r6, r7⟩ := hnn
        go_wp2_with fail
        obtain ⟨t0, t1, t2, t3, _, _, _, _⟩ := HTr.out.put (.int .i64 0) (.int .i64 0) (.int .i64 0) (.string ⟨#[]⟩)
        have HN : takeO l = none := none_size HS.out H64.out
        refine bodyPost_ret (v := .tuple #[shZ, .bool false]) (by simp [results, Tryd.results32, go_sem, shZ, t0, t1, t2, t3]) rfl ⟨by rw [HN]; rfl, ?_⟩
        exact below_put4 HBr.out (Nat.le_refl _) (.int .i64 0) (.int .i64 0) (.int .i64 0) (.string ⟨#[]⟩)
    · have hex : k = l.length ∨ 1000 < 64 * k := by omega
      have HEX := Lib.hid hex
      have HLL : Hid (k ≤ l.length) := hk
      clear HT HL1 HB HWR
      obtain ⟨W1, rfl⟩ : ∃ x : World, x = wr := ⟨_, rfl⟩
      by_cases hA : k < l.length
      · have d1 : decide ((k : Int) < (l.length : Int)) = true := decide_eq_true (by omega)
        have d2 : decide (((u.size : Nat) : Int) ≤ 1000) = false := decide_eq_false (by have := HU.out.1; omega)
        have d3 : decide (((u.size : Nat) : Int) < 64) = false := decide_eq_false (by have := HU.out.1; omega)
        have d4 : decide ((1000 : Int) < ((u.size : Nat) : Int)) = true := decide_eq_true (by have := HU.out.1; omega)
        have HW : Hid (l.length = 0 ∨ 3 < l.length) := .inr (by omega)
        have j1 : (k : Int) < (l.length : Int) := by omega
        clear hgo hex hk
        have hnn := HTr.out
        obtain ⟨r0, r1, r2, r3, r4, r5, r6, r7⟩ := hnn
        go_wp2_with fail
        obtain ⟨t0, t1, t2, t3, _, _, _, _⟩ := HTr.out.put (.int .i64 0) (.int .i64 0) (.int .i64 0) (.string ⟨#[]⟩)
        have HN : takeO l = none := none_len HW.out
        refine bodyPost_ret (v := .tuple #[shZ, .bool false]) (by simp [results, Tryd.results32, go_sem, shZ, t0, t1, t2, t3]) rfl ⟨by rw [HN]; rfl, ?_⟩
        exact below_put4 HBr.out (Nat.le_refl _) (.int .i64 0) (.int .i64 0) (.int .i64 0) (.string ⟨#[]⟩)
      obtain rfl : k = l.length := by omega
      have d1 : decide ((l.length : Int) < (l.length : Int)) = false := decide_eq_false (by omega)
      by_cases hC : l.length = 0
      · have d3 : decide (((u.size : Nat) : Int) < 64) = true := decide_eq_true (by have := HU.out.1; omega)
        have HW : Hid (l.length = 0 ∨ 3 < l.length) := .inl hC
        clear hgo hex hA hk hC
        have hnn := HTr.out
        obtain ⟨r0, r1, r2, r3, r4, r5, r6, r7⟩ := hnn
        go_wp2_with fail
        obtain ⟨t0, t1, t2, t3, _, _, _, _⟩ := HTr.out.put (.int .i64 0) (.int .i64 0) (.int .i64 0) (.string ⟨#[]⟩)
        have HN : takeO l = none := none_len HW.out
        refine bodyPost_ret (v := .tuple #[shZ, .bool false]) (by simp [results, Tryd.results32, go_sem, shZ, t0, t1, t2, t3]) rfl ⟨by rw [HN]; rfl, ?_⟩
        exact below_put4 HBr.out (Nat.le_refl _) (.int .i64 0) (.int .i64 0) (.int .i64 0) (.string ⟨#[]⟩)
      have d3 : decide (((u.size : Nat) : Int) < 64) = false := decide_eq_false (by have := HU.out.1; omega)
      by_cases hD : 1000 < 64 * l.length
      · have d4 : decide ((1000 : Int) < ((u.size : Nat) : Int)) = true := decide_eq_true (by have := HU.out.1; omega)
        have HW : Hid (l.length = 0 ∨ 3 < l.length) := .inr (by omega)
        clear hgo hex hA hk hC hD
        have hnn := HTr.out
        obtain ⟨r0, r1, r2, r3, r4, r5, r6, r7⟩ := hnn
        go_wp2_with fail
        obtain ⟨t0, t1, t2, t3, _, _, _, _⟩ := HTr.out.put (.int .i64 0) (.int .i64 0) (.int .i64 0) (.string ⟨#[]⟩)
        have HN : takeO l = none := none_len HW.out
        refine bodyPost_ret (v := .tuple #[shZ, .bool false]) (by simp [results, Tryd.results32, go_sem, shZ, t0, t1, t2, t3]) rfl ⟨by rw [HN]; rfl, ?_⟩
        exact below_put4 HBr.out (Nat.le_refl _) (.int .i64 0) (.int .i64 0) (.int .i64 0) (.string ⟨#[]⟩)
      have d4 : decide ((1000 : Int) < ((u.size : Nat) : Int)) = false := decide_eq_false (by have := HU.out.1; omega)
      obtain ⟨n, hn⟩ : ∃ n, n = l.length := ⟨_, rfl⟩
      have hn1 : 1 ≤ n := by omega
      have hn2 : n ≤ 15 := by omega
      obtain ⟨u1, u2, u3⟩ := HU.out
      rw [List.take_length] at u2 u3
      rw [← hn] at u1
      have hlt := joinB_lt l
      have hcl := joinB_len u3
      rw [← hn] at hcl
      clear hgo hex hA hk hC hD HU HLL HEX
      obtain ⟨T, rfl⟩ : ∃ x : ByteArray, x = u := ⟨_, rfl⟩
      have hnm : bytesOf (T.extract 0 4) = (joinB l).take 4 := by rw [u2, bytesOf_part, bytesOf_strOf8 hlt]; rfl
      obtain ⟨nn, hnn⟩ : ∃ nn, nn = numAt (joinB l) 13 2 := ⟨_, rfl⟩
      obtain ⟨st, hst⟩ : ∃ nn, nn = numAt (joinB l) 4 4 := ⟨_, rfl⟩
      obtain ⟨g, hg⟩ : ∃ nn, nn = numAt (joinB l) 8 4 := ⟨_, rfl⟩
      obtain ⟨ix, hix⟩ : ∃ nn, nn = numAt (joinB l) 12 1 := ⟨_, rfl⟩
      obtain ⟨tx, htx⟩ : ∃ x, x = T.extract 15 (15 + nn) := ⟨_, rfl⟩
      have HNN : Hid (numB (bytesOf (T.extract 13 15)) = nn) := by rw [Hid, u2, num_part hlt, hnn]
      have HST : Hid (numB (bytesOf (T.extract 4 8)) = st) := by rw [Hid, u2, num_part hlt, hst]
      have HG : Hid (numB (bytesOf (T.extract 8 12)) = g) := by rw [Hid, u2, num_part hlt, hg]
      have HIX : Hid (numB (bytesOf (T.extract 12 13)) = ix) := by rw [Hid, u2, num_part hlt, hix]
      have HP : Hid (parseS l = ⟨st, ix, g, tx⟩) := by
        rw [Hid, parseS, parseC, ← hst, ← hix, ← hg, ← hnn, htx, u2, strOf8_part, Nat.add_sub_cancel_left]
      have hnb : nn < 65536 := by rw [hnn]; exact numAt_lt2 hlt 13
      have HTs := Lib.hid u1
      have h64 : 64 ≤ T.size := by omega
      have h4 : 4 ≤ T.size := by omega
      have h8 : 8 ≤ T.size := by omega
      have h12b : 12 ≤ T.size := by omega
      have h13 : 13 ≤ T.size := by omega
      have k4 : (4 : Int) ≤ ((T.size : Nat) : Int) := by omega
      have k8 : (8 : Int) ≤ ((T.size : Nat) : Int) := by omega
      have k12b : (12 : Int) ≤ ((T.size : Nat) : Int) := by omega
      have k13 : (13 : Int) ≤ ((T.size : Nat) : Int) := by omega
      have k15 : (15 : Int) ≤ ((T.size : Nat) : Int) := by omega
      have w15 : IntKind.i64.wrap (15 + (nn : Int)) = 15 + (nn : Int) := IntWalk.i64_in _ (by omega)
      have w23 : IntKind.i64.wrap (15 + (nn : Int) + 8) = 15 + (nn : Int) + 8 := IntWalk.i64_in _ (by omega)
      have HNA : Hid (numAt (joinB l) 13 2 = nn) := hnn.symm
      have HCL := Lib.hid hcl
      have HTX := Lib.hid htx
      have hT15 : 15 ≤ T.size := by omega
      have HLT := Lib.hid hlt
      clear hnn hst hg hix htx hcl hlt u1 u2 u3 hn
      by_cases hN : (joinB l).take 4 ≠ [83, 72, 82, 68]
      · have d5 : ((T.extract 0 4).toList == [83, 72, 82, 68]) = false := by
          rw [beq_eq_false_iff_ne]
          intro e
          apply hN
          rw [← hnm, bytesOf, ← ByteArray.toList_eq, e]
          rfl
        have HNE := Lib.hid hN
        clear hN hnm
        have hnn := HTr.out
        obtain ⟨r0, r1, r2, r3, r4, r5, r6, r7⟩ := hnn
        go_wp2_with fail
        obtain ⟨t0, t1, t2, t3, _, _, _, _⟩ := HTr.out.put (.int .i64 0) (.int .i64 0) (.int .i64 0) (.string ⟨#[]⟩)
        have HN : takeO l = none := none_name HNE.out
        refine bodyPost_ret (v := .tuple #[shZ, .bool false]) (by simp [results, Tryd.results32, go_sem, shZ, t0, t1, t2, t3]) rfl ⟨by rw [HN]; rfl, ?_⟩
        exact below_put4 HBr.out (Nat.le_refl _) (.int .i64 0) (.int .i64 0) (.int .i64 0) (.string ⟨#[]⟩)
      have d5 : ((T.extract 0 4).toList == [83, 72, 82, 68]) = true := by
        rw [beq_iff_eq]
        have e := Classical.not_not.1 hN
        have e2 : T.extract 0 4 = strOf8 [83, 72, 82, 68] := by rw [← strOf8_of (T.extract 0 4), hnm, e]
        rw [e2, ByteArray.toList_eq]
        rfl
      clear hN hnm
      go_upto_region 10 with fail
      clear d1 d3 d4 d5
      obtain ⟨W0, rfl⟩ : ∃ x : World, x = W1 := ⟨_, rfl⟩
      go_cut [6] from 46 to 55 (fun pv wx => ∃ bS, pv = .pointer (some ⟨bS, 0, none⟩) ∧ W0.heap.size ≤ bS ∧ Hid (Cell4 wx bS (.int .i64 (st : Int)) (.int .i64 (ix : Int)) (.int .i64 (g : Int)) (.string ⟨#[]⟩)) ∧ Hid (Below W0.heap.size W0 wx))
      case first =>
        refine wp_region_held (S := fun W' => Below W0.heap.size W0 W') (by kernel_rfl) ?_
        change wpAnyH _ _ _ _ _ 12 _ _ W0.drew
        have hcum := (Below.refl W0.heap.size W0).drew
        generalize W0.drew = V0 at *
        refine wpAnyH_take (i := 0) (oi := { dst := some 46, op := Op.move (Operand.tmp 4), type := 9, pos := "siloref11.go:172", after := #[], guard := none }) (v := ?_) rfl (by kernel_rfl) (by kernel_rfl) (by kernel_rfl) (fun _ _ _ h => h) (Or.inl ⟨by rfl, fun W' hW' => ?_⟩) hcum ?_
        rotate_left 1
        · go_simp
          try rfl
        try simp only [Act.put, List.setIfInBounds_toArray, List.set_cons_zero, List.set_cons_succ]
        refine wpAnyH_take (i := 1) (oi := { dst := some 47, op := Op.slice 9 (Operand.tmp 46) (some (Operand.const (Value.int IntKind.i64 4))) (some (Operand.const (Value.int IntKind.i64 8))) none, type := 9, pos := "siloref11.go:172", after := #[{ on := 0, ground := Ground.data }], guard := none }) (v := ?_) rfl (by kernel_rfl) (by kernel_rfl) (by kernel_rfl) (fun _ _ _ h => h) (Or.inl ⟨by rfl, fun W' hW' => ?_⟩) hcum ?_
        rotate_left 1
        · go_simp
          try rfl
        try simp only [Act.put, List.setIfInBounds_toArray, List.set_cons_zero, List.set_cons_succ]
        refine wpAnyH_take (i := 3) (oi := { dst := some 49, op := Op.move (Operand.tmp 4), type := 9, pos := "siloref11.go:172", after := #[], guard := none }) (v := ?_) rfl (by kernel_rfl) (by kernel_rfl) (by kernel_rfl) (fun _ _ _ h => h) (Or.inl ⟨by rfl, fun W' hW' => ?_⟩) hcum ?_
        rotate_left 1
        · go_simp
          try rfl
        try simp only [Act.put, List.setIfInBounds_toArray, List.set_cons_zero, List.set_cons_succ]
        refine wpAnyH_take (i := 4) (oi := { dst := some 50, op := Op.slice 9 (Operand.tmp 49) (some (Operand.const (Value.int IntKind.i64 8))) (some (Operand.const (Value.int IntKind.i64 12))) none, type := 9, pos := "siloref11.go:172", after := #[{ on := 3, ground := Ground.data }], guard := none }) (v := ?_) rfl (by kernel_rfl) (by kernel_rfl) (by kernel_rfl) (fun _ _ _ h => h) (Or.inl ⟨by rfl, fun W' hW' => ?_⟩) hcum ?_
        rotate_left 1
        · go_simp
          try rfl
        try simp only [Act.put, List.setIfInBounds_toArray, List.set_cons_zero, List.set_cons_succ]
        refine wpAnyH_take (i := 6) (oi := { dst := some 52, op := Op.move (Operand.tmp 4), type := 9, pos := "siloref11.go:172", after := #[], guard := none }) (v := ?_) rfl (by kernel_rfl) (by kernel_rfl) (by kernel_rfl) (fun _ _ _ h => h) (Or.inl ⟨by rfl, fun W' hW' => ?_⟩) hcum ?_
        rotate_left 1
        · go_simp
          try rfl
        try simp only [Act.put, List.setIfInBounds_toArray, List.set_cons_zero, List.set_cons_succ]
        refine wpAnyH_take (i := 7) (oi := { dst := some 53, op := Op.slice 9 (Operand.tmp 52) (some (Operand.const (Value.int IntKind.i64 12))) (some (Operand.const (Value.int IntKind.i64 13))) none, type := 9, pos := "siloref11.go:172", after := #[{ on := 6, ground := Ground.data }], guard := none }) (v := ?_) rfl (by kernel_rfl) (by kernel_rfl) (by kernel_rfl) (fun _ _ _ h => h) (Or.inl ⟨by rfl, fun W' hW' => ?_⟩) hcum ?_
        rotate_left 1
        · go_simp
          try rfl
        try simp only [Act.put, List.setIfInBounds_toArray, List.set_cons_zero, List.set_cons_succ]
        refine wpAnyH_ready (rs := [2, 10]) (by kernel_rfl) (by simp) ?_
        refine AllReadyH.cons (o := { dst := some 48, op := Op.call { callee := Callee.value (Operand.func 49), args := #[Operand.tmp 47], argTypes := #[9] }, type := 3, pos := "siloref11.go:172", after := #[{ on := 1, ground := Ground.data }], guard := none }) rfl (fun KK hK => ?_) (AllReadyH.cons (o := { dst := some 6, op := Op.alloc 28, type := 0, pos := "siloref11.go:172", after := #[], guard := none }) rfl (fun KK hK => ?_) AllReadyH.nil)
        · rw [if_pos (by rfl)]
          go_simp
          refine (refNumber_any (T.extract 4 8) V0 (by rw [ByteArray.size_extract]; omega)).mono ?_
          rintro e V1 ⟨rfl, hVW⟩
          replace hVW := hVW.symm
          subst hVW
          have hbe := Below.refl V1.heap.size V1
          rw [HST.out]
          have hcum := hcum.trans (hbe.mono hcum.size)
          refine hK.out _ _ hcum (fun _ => ?_)
          clear hK hbe
          try simp only [Act.put, List.setIfInBounds_toArray, List.set_cons_zero, List.set_cons_succ]
          refine wpAnyH_ready (rs := [5, 10]) (by kernel_rfl) (by simp) ?_
          refine AllReadyH.cons (o := { dst := some 51, op := Op.call { callee := Callee.value (Operand.func 49), args := #[Operand.tmp 50], argTypes := #[9] }, type := 3, pos := "siloref11.go:172", after := #[{ on := 4, ground := Ground.data }, { on := 2, ground := Ground.chain }], guard := none }) rfl (fun KK hK => ?_) (AllReadyH.cons (o := { dst := some 6, op := Op.alloc 28, type := 0, pos := "siloref11.go:172", after := #[], guard := none }) rfl (fun KK hK => ?_) AllReadyH.nil)
          · rw [if_pos (by rfl)]
            go_simp
            refine (refNumber_any (T.extract 8 12) V1 (by rw [ByteArray.size_extract]; omega)).mono ?_
            rintro e V2 ⟨rfl, hVW⟩
            replace hVW := hVW.symm
            subst hVW
            have hbe := Below.refl V2.heap.size V2
            rw [HG.out]
            have hcum := hcum.trans (hbe.mono hcum.size)
            refine hK.out _ _ hcum (fun _ => ?_)
            clear hK hbe
            try simp only [Act.put, List.setIfInBounds_toArray, List.set_cons_zero, List.set_cons_succ]
            refine wpAnyH_ready (rs := [8, 10]) (by kernel_rfl) (by simp) ?_
            refine AllReadyH.cons (o := { dst := some 54, op := Op.call { callee := Callee.value (Operand.func 49), args := #[Operand.tmp 53], argTypes := #[9] }, type := 3, pos := "siloref11.go:172", after := #[{ on := 7, ground := Ground.data }, { on := 5, ground := Ground.chain }], guard := none }) rfl (fun KK hK => ?_) (AllReadyH.cons (o := { dst := some 6, op := Op.alloc 28, type := 0, pos := "siloref11.go:172", after := #[], guard := none }) rfl (fun KK hK => ?_) AllReadyH.nil)
            · rw [if_pos (by rfl)]
              go_simp
              refine (refNumber_any (T.extract 12 13) V2 (by rw [ByteArray.size_extract]; omega)).mono ?_
              rintro e V3 ⟨rfl, hVW⟩
              replace hVW := hVW.symm
              subst hVW
              have hbe := Below.refl V3.heap.size V3
              rw [HIX.out]
              have hcum := hcum.trans (hbe.mono hcum.size)
              refine hK.out _ _ hcum (fun _ => ?_)
              clear hK hbe
              try simp only [Act.put, List.setIfInBounds_toArray, List.set_cons_zero, List.set_cons_succ]
              refine wpAnyH_take (i := 9) (oi := { dst := some 55, op := Op.build 28 #[(0, Operand.tmp 48), (2, Operand.tmp 51), (1, Operand.tmp 54)], type := 28, pos := "siloref11.go:172", after := #[{ on := 2, ground := Ground.data }, { on := 5, ground := Ground.data }, { on := 8, ground := Ground.data }], guard := none }) (v := ?_) rfl (by kernel_rfl) (by kernel_rfl) (by kernel_rfl) (fun _ _ _ h => h) (Or.inl ⟨by rfl, fun W' hW' => ?_⟩) hcum ?_
              rotate_left 1
              · go_simp
                try rfl
              try simp only [Act.put, List.setIfInBounds_toArray, List.set_cons_zero, List.set_cons_succ]
              refine wpAnyH_ready (rs := [10]) (by kernel_rfl) (by simp) ?_
              refine AllReadyH.cons (o := { dst := some 6, op := Op.alloc 28, type := 0, pos := "siloref11.go:172", after := #[], guard := none }) rfl (fun KK hK => ?_) AllReadyH.nil
              rw [if_pos (by rfl)]
              go_simp
              have tS := Cell4.new V3 (.int .i64 0) (.int .i64 0) (.int .i64 0) (.string ⟨#[]⟩) 28
              have hgs : W0.heap.size ≤ V3.heap.size := hcum.size
              have hbe := (Below.refl W0.heap.size V3).alloc hcum.size (.cells #[.int .i64 0, .int .i64 0, .int .i64 0, .string ⟨#[]⟩] 28)
              replace hcum := hcum.trans hbe
              refine hK.out _ _ hcum (fun _ => ?_)
              clear hK hbe
              generalize V3.alloc (.cells #[.int .i64 0, .int .i64 0, .int .i64 0, .string ⟨#[]⟩] 28) = V4 at *
              generalize V3.heap.size = bS at *
              have HTS := Lib.hid tS
              obtain ⟨s0, s1, s2, s3, q0, q1, q2, q3⟩ := tS
              try simp only [Act.put, List.setIfInBounds_toArray, List.set_cons_zero, List.set_cons_succ]
              refine wpAnyH_ready (rs := [11]) (by kernel_rfl) (by simp) ?_
              refine AllReadyH.cons (o := { dst := none, op := Op.store 28 (Operand.tmp 6) (Operand.tmp 55), type := 0, pos := "siloref11.go:172", after := #[{ on := 10, ground := Ground.data }, { on := 9, ground := Ground.data }, { on := 8, ground := Ground.chain }, { on := 0, ground := Ground.phase }, { on := 1, ground := Ground.phase }, { on := 2, ground := Ground.phase }, { on := 3, ground := Ground.phase }, { on := 4, ground := Ground.phase }, { on := 5, ground := Ground.phase }, { on := 6, ground := Ground.phase }, { on := 7, ground := Ground.phase }, { on := 8, ground := Ground.phase }, { on := 9, ground := Ground.phase }, { on := 10, ground := Ground.phase }], guard := none }) rfl (fun KK hK => ?_) AllReadyH.nil
              rw [if_pos (by rfl)]
              go_simp
              have HT2 := Lib.hid (HTS.out.put (.int .i64 (st : Int)) (.int .i64 (ix : Int)) (.int .i64 (g : Int)) (.string ⟨#[]⟩))
              have hcum2 := below_put4 hcum hgs (.int .i64 (st : Int)) (.int .i64 (ix : Int)) (.int .i64 (g : Int)) (.string ⟨#[]⟩)
              refine hK.out _ _ hcum2 (fun _ => ?_)
              clear hK HTS s0 s1 s2 s3 q0 q1 q2 q3 hcum
              generalize (((V4.setCell ⟨bS, 0, none⟩ (.int .i64 (st : Int))).setCell ⟨bS, 1, none⟩ (.int .i64 (ix : Int))).setCell ⟨bS, 2, none⟩ (.int .i64 (g : Int))).setCell ⟨bS, 3, none⟩ (.string ⟨#[]⟩) = V5 at *
              have hcum := hcum2
              clear hcum2
              try simp only [Act.put, List.setIfInBounds_toArray, List.set_cons_zero, List.set_cons_succ]
              refine wpAnyH_done (by kernel_rfl) ?_ _
              go_wp2_with fail
              go_meet
              exact ⟨bS, rfl, hgs, HT2, Lib.hid hcum⟩
            · rw [if_pos (by rfl)]
              go_simp
              have tS := Cell4.new V2 (.int .i64 0) (.int .i64 0) (.int .i64 0) (.string ⟨#[]⟩) 28
              have hgs : W0.heap.size ≤ V2.heap.size := hcum.size
              have hbe := (Below.refl W0.heap.size V2).alloc hcum.size (.cells #[.int .i64 0, .int .i64 0, .int .i64 0, .string ⟨#[]⟩] 28)
              replace hcum := hcum.trans hbe
              refine hK.out _ _ hcum (fun _ => ?_)
              clear hK hbe
              generalize V2.alloc (.cells #[.int .i64 0, .int .i64 0, .int .i64 0, .string ⟨#[]⟩] 28) = V3 at *
              generalize V2.heap.size = bS at *
              have HTS := Lib.hid tS
              obtain ⟨s0, s1, s2, s3, q0, q1, q2, q3⟩ := tS
              try simp only [Act.put, List.setIfInBounds_toArray, List.set_cons_zero, List.set_cons_succ]
              refine wpAnyH_ready (rs := [8]) (by kernel_rfl) (by simp) ?_
              refine AllReadyH.cons (o := { dst := some 54, op := Op.call { callee := Callee.value (Operand.func 49), args := #[Operand.tmp 53], argTypes := #[9] }, type := 3, pos := "siloref11.go:172", after := #[{ on := 7, ground := Ground.data }, { on := 5, ground := Ground.chain }], guard := none }) rfl (fun KK hK => ?_) AllReadyH.nil
              rw [if_pos (by rfl)]
              go_simp
              refine (refNumber_any (T.extract 12 13) V3 (by rw [ByteArray.size_extract]; omega)).mono ?_
              rintro e V4 ⟨rfl, hVW⟩
              replace hVW := hVW.symm
              subst hVW
              have hbe := Below.refl V4.heap.size V4
              rw [HIX.out]
              have hcum := hcum.trans (hbe.mono hcum.size)
              refine hK.out _ _ hcum (fun _ => ?_)
              clear hK hbe
              try simp only [Act.put, List.setIfInBounds_toArray, List.set_cons_zero, List.set_cons_succ]
              refine wpAnyH_take (i := 9) (oi := { dst := some 55, op := Op.build 28 #[(0, Operand.tmp 48), (2, Operand.tmp 51), (1, Operand.tmp 54)], type := 28, pos := "siloref11.go:172", after := #[{ on := 2, ground := Ground.data }, { on := 5, ground := Ground.data }, { on := 8, ground := Ground.data }], guard := none }) (v := ?_) rfl (by kernel_rfl) (by kernel_rfl) (by kernel_rfl) (fun _ _ _ h => h) (Or.inl ⟨by rfl, fun W' hW' => ?_⟩) hcum ?_
              rotate_left 1
              · go_simp
                try rfl
              try simp only [Act.put, List.setIfInBounds_toArray, List.set_cons_zero, List.set_cons_succ]
              refine wpAnyH_ready (rs := [11]) (by kernel_rfl) (by simp) ?_
              refine AllReadyH.cons (o := { dst := none, op := Op.store 28 (Operand.tmp 6) (Operand.tmp 55), type := 0, pos := "siloref11.go:172", after := #[{ on := 10, ground := Ground.data }, { on := 9, ground := Ground.data }, { on := 8, ground := Ground.chain }, { on := 0, ground := Ground.phase }, { on := 1, ground := Ground.phase }, { on := 2, ground := Ground.phase }, { on := 3, ground := Ground.phase }, { on := 4, ground := Ground.phase }, { on := 5, ground := Ground.phase }, { on := 6, ground := Ground.phase }, { on := 7, ground := Ground.phase }, { on := 8, ground := Ground.phase }, { on := 9, ground := Ground.phase }, { on := 10, ground := Ground.phase }], guard := none }) rfl (fun KK hK => ?_) AllReadyH.nil
              rw [if_pos (by rfl)]
              go_simp
              have HT2 := Lib.hid (HTS.out.put (.int .i64 (st : Int)) (.int .i64 (ix : Int)) (.int .i64 (g : Int)) (.string ⟨#[]⟩))
              have hcum2 := below_put4 hcum hgs (.int .i64 (st : Int)) (.int .i64 (ix : Int)) (.int .i64 (g : Int)) (.string ⟨#[]⟩)
              refine hK.out _ _ hcum2 (fun _ => ?_)
              clear hK HTS s0 s1 s2 s3 q0 q1 q2 q3 hcum
              generalize (((V4.setCell ⟨bS, 0, none⟩ (.int .i64 (st : Int))).setCell ⟨bS, 1, none⟩ (.int .i64 (ix : Int))).setCell ⟨bS, 2, none⟩ (.int .i64 (g : Int))).setCell ⟨bS, 3, none⟩ (.string ⟨#[]⟩) = V5 at *
              have hcum := hcum2
              clear hcum2
              try simp only [Act.put, List.setIfInBounds_toArray, List.set_cons_zero, List.set_cons_succ]
              refine wpAnyH_done (by kernel_rfl) ?_ _
              go_wp2_with fail
              go_meet
              exact ⟨bS, rfl, hgs, HT2, Lib.hid hcum⟩
          · rw [if_pos (by rfl)]
            go_simp
            have tS := Cell4.new V1 (.int .i64 0) (.int .i64 0) (.int .i64 0) (.string ⟨#[]⟩) 28
            have hgs : W0.heap.size ≤ V1.heap.size := hcum.size
            have hbe := (Below.refl W0.heap.size V1).alloc hcum.size (.cells #[.int .i64 0, .int .i64 0, .int .i64 0, .string ⟨#[]⟩] 28)
            replace hcum := hcum.trans hbe
            refine hK.out _ _ hcum (fun _ => ?_)
            clear hK hbe
            generalize V1.alloc (.cells #[.int .i64 0, .int .i64 0, .int .i64 0, .string ⟨#[]⟩] 28) = V2 at *
            generalize V1.heap.size = bS at *
            have HTS := Lib.hid tS
            obtain ⟨s0, s1, s2, s3, q0, q1, q2, q3⟩ := tS
            try simp only [Act.put, List.setIfInBounds_toArray, List.set_cons_zero, List.set_cons_succ]
            refine wpAnyH_ready (rs := [5]) (by kernel_rfl) (by simp) ?_
            refine AllReadyH.cons (o := { dst := some 51, op := Op.call { callee := Callee.value (Operand.func 49), args := #[Operand.tmp 50], argTypes := #[9] }, type := 3, pos := "siloref11.go:172", after := #[{ on := 4, ground := Ground.data }, { on := 2, ground := Ground.chain }], guard := none }) rfl (fun KK hK => ?_) AllReadyH.nil
            rw [if_pos (by rfl)]
            go_simp
            refine (refNumber_any (T.extract 8 12) V2 (by rw [ByteArray.size_extract]; omega)).mono ?_
            rintro e V3 ⟨rfl, hVW⟩
            replace hVW := hVW.symm
            subst hVW
            have hbe := Below.refl V3.heap.size V3
            rw [HG.out]
            have hcum := hcum.trans (hbe.mono hcum.size)
            refine hK.out _ _ hcum (fun _ => ?_)
            clear hK hbe
            try simp only [Act.put, List.setIfInBounds_toArray, List.set_cons_zero, List.set_cons_succ]
            refine wpAnyH_ready (rs := [8]) (by kernel_rfl) (by simp) ?_
            refine AllReadyH.cons (o := { dst := some 54, op := Op.call { callee := Callee.value (Operand.func 49), args := #[Operand.tmp 53], argTypes := #[9] }, type := 3, pos := "siloref11.go:172", after := #[{ on := 7, ground := Ground.data }, { on := 5, ground := Ground.chain }], guard := none }) rfl (fun KK hK => ?_) AllReadyH.nil
            rw [if_pos (by rfl)]
            go_simp
            refine (refNumber_any (T.extract 12 13) V3 (by rw [ByteArray.size_extract]; omega)).mono ?_
            rintro e V4 ⟨rfl, hVW⟩
            replace hVW := hVW.symm
            subst hVW
            have hbe := Below.refl V4.heap.size V4
            rw [HIX.out]
            have hcum := hcum.trans (hbe.mono hcum.size)
            refine hK.out _ _ hcum (fun _ => ?_)
            clear hK hbe
            try simp only [Act.put, List.setIfInBounds_toArray, List.set_cons_zero, List.set_cons_succ]
            refine wpAnyH_take (i := 9) (oi := { dst := some 55, op := Op.build 28 #[(0, Operand.tmp 48), (2, Operand.tmp 51), (1, Operand.tmp 54)], type := 28, pos := "siloref11.go:172", after := #[{ on := 2, ground := Ground.data }, { on := 5, ground := Ground.data }, { on := 8, ground := Ground.data }], guard := none }) (v := ?_) rfl (by kernel_rfl) (by kernel_rfl) (by kernel_rfl) (fun _ _ _ h => h) (Or.inl ⟨by rfl, fun W' hW' => ?_⟩) hcum ?_
            rotate_left 1
            · go_simp
              try rfl
            try simp only [Act.put, List.setIfInBounds_toArray, List.set_cons_zero, List.set_cons_succ]
            refine wpAnyH_ready (rs := [11]) (by kernel_rfl) (by simp) ?_
            refine AllReadyH.cons (o := { dst := none, op := Op.store 28 (Operand.tmp 6) (Operand.tmp 55), type := 0, pos := "siloref11.go:172", after := #[{ on := 10, ground := Ground.data }, { on := 9, ground := Ground.data }, { on := 8, ground := Ground.chain }, { on := 0, ground := Ground.phase }, { on := 1, ground := Ground.phase }, { on := 2, ground := Ground.phase }, { on := 3, ground := Ground.phase }, { on := 4, ground := Ground.phase }, { on := 5, ground := Ground.phase }, { on := 6, ground := Ground.phase }, { on := 7, ground := Ground.phase }, { on := 8, ground := Ground.phase }, { on := 9, ground := Ground.phase }, { on := 10, ground := Ground.phase }], guard := none }) rfl (fun KK hK => ?_) AllReadyH.nil
            rw [if_pos (by rfl)]
            go_simp
            have HT2 := Lib.hid (HTS.out.put (.int .i64 (st : Int)) (.int .i64 (ix : Int)) (.int .i64 (g : Int)) (.string ⟨#[]⟩))
            have hcum2 := below_put4 hcum hgs (.int .i64 (st : Int)) (.int .i64 (ix : Int)) (.int .i64 (g : Int)) (.string ⟨#[]⟩)
            refine hK.out _ _ hcum2 (fun _ => ?_)
            clear hK HTS s0 s1 s2 s3 q0 q1 q2 q3 hcum
            generalize (((V4.setCell ⟨bS, 0, none⟩ (.int .i64 (st : Int))).setCell ⟨bS, 1, none⟩ (.int .i64 (ix : Int))).setCell ⟨bS, 2, none⟩ (.int .i64 (g : Int))).setCell ⟨bS, 3, none⟩ (.string ⟨#[]⟩) = V5 at *
            have hcum := hcum2
            clear hcum2
            try simp only [Act.put, List.setIfInBounds_toArray, List.set_cons_zero, List.set_cons_succ]
            refine wpAnyH_done (by kernel_rfl) ?_ _
            go_wp2_with fail
            go_meet
            exact ⟨bS, rfl, hgs, HT2, Lib.hid hcum⟩
        · rw [if_pos (by rfl)]
          go_simp
          have tS := Cell4.new V0 (.int .i64 0) (.int .i64 0) (.int .i64 0) (.string ⟨#[]⟩) 28
          have hgs : W0.heap.size ≤ V0.heap.size := hcum.size
          have hbe := (Below.refl W0.heap.size V0).alloc hcum.size (.cells #[.int .i64 0, .int .i64 0, .int .i64 0, .string ⟨#[]⟩] 28)
          replace hcum := hcum.trans hbe
          refine hK.out _ _ hcum (fun _ => ?_)
          clear hK hbe
          generalize V0.alloc (.cells #[.int .i64 0, .int .i64 0, .int .i64 0, .string ⟨#[]⟩] 28) = V1 at *
          generalize V0.heap.size = bS at *
          have HTS := Lib.hid tS
          obtain ⟨s0, s1, s2, s3, q0, q1, q2, q3⟩ := tS
          try simp only [Act.put, List.setIfInBounds_toArray, List.set_cons_zero, List.set_cons_succ]
          refine wpAnyH_ready (rs := [2]) (by kernel_rfl) (by simp) ?_
          refine AllReadyH.cons (o := { dst := some 48, op := Op.call { callee := Callee.value (Operand.func 49), args := #[Operand.tmp 47], argTypes := #[9] }, type := 3, pos := "siloref11.go:172", after := #[{ on := 1, ground := Ground.data }], guard := none }) rfl (fun KK hK => ?_) AllReadyH.nil
          rw [if_pos (by rfl)]
          go_simp
          refine (refNumber_any (T.extract 4 8) V1 (by rw [ByteArray.size_extract]; omega)).mono ?_
          rintro e V2 ⟨rfl, hVW⟩
          replace hVW := hVW.symm
          subst hVW
          have hbe := Below.refl V2.heap.size V2
          rw [HST.out]
          have hcum := hcum.trans (hbe.mono hcum.size)
          refine hK.out _ _ hcum (fun _ => ?_)
          clear hK hbe
          try simp only [Act.put, List.setIfInBounds_toArray, List.set_cons_zero, List.set_cons_succ]
          refine wpAnyH_ready (rs := [5]) (by kernel_rfl) (by simp) ?_
          refine AllReadyH.cons (o := { dst := some 51, op := Op.call { callee := Callee.value (Operand.func 49), args := #[Operand.tmp 50], argTypes := #[9] }, type := 3, pos := "siloref11.go:172", after := #[{ on := 4, ground := Ground.data }, { on := 2, ground := Ground.chain }], guard := none }) rfl (fun KK hK => ?_) AllReadyH.nil
          rw [if_pos (by rfl)]
          go_simp
          refine (refNumber_any (T.extract 8 12) V2 (by rw [ByteArray.size_extract]; omega)).mono ?_
          rintro e V3 ⟨rfl, hVW⟩
          replace hVW := hVW.symm
          subst hVW
          have hbe := Below.refl V3.heap.size V3
          rw [HG.out]
          have hcum := hcum.trans (hbe.mono hcum.size)
          refine hK.out _ _ hcum (fun _ => ?_)
          clear hK hbe
          try simp only [Act.put, List.setIfInBounds_toArray, List.set_cons_zero, List.set_cons_succ]
          refine wpAnyH_ready (rs := [8]) (by kernel_rfl) (by simp) ?_
          refine AllReadyH.cons (o := { dst := some 54, op := Op.call { callee := Callee.value (Operand.func 49), args := #[Operand.tmp 53], argTypes := #[9] }, type := 3, pos := "siloref11.go:172", after := #[{ on := 7, ground := Ground.data }, { on := 5, ground := Ground.chain }], guard := none }) rfl (fun KK hK => ?_) AllReadyH.nil
          rw [if_pos (by rfl)]
          go_simp
          refine (refNumber_any (T.extract 12 13) V3 (by rw [ByteArray.size_extract]; omega)).mono ?_
          rintro e V4 ⟨rfl, hVW⟩
          replace hVW := hVW.symm
          subst hVW
          have hbe := Below.refl V4.heap.size V4
          rw [HIX.out]
          have hcum := hcum.trans (hbe.mono hcum.size)
          refine hK.out _ _ hcum (fun _ => ?_)
          clear hK hbe
          try simp only [Act.put, List.setIfInBounds_toArray, List.set_cons_zero, List.set_cons_succ]
          refine wpAnyH_take (i := 9) (oi := { dst := some 55, op := Op.build 28 #[(0, Operand.tmp 48), (2, Operand.tmp 51), (1, Operand.tmp 54)], type := 28, pos := "siloref11.go:172", after := #[{ on := 2, ground := Ground.data }, { on := 5, ground := Ground.data }, { on := 8, ground := Ground.data }], guard := none }) (v := ?_) rfl (by kernel_rfl) (by kernel_rfl) (by kernel_rfl) (fun _ _ _ h => h) (Or.inl ⟨by rfl, fun W' hW' => ?_⟩) hcum ?_
          rotate_left 1
          · go_simp
            try rfl
          try simp only [Act.put, List.setIfInBounds_toArray, List.set_cons_zero, List.set_cons_succ]
          refine wpAnyH_ready (rs := [11]) (by kernel_rfl) (by simp) ?_
          refine AllReadyH.cons (o := { dst := none, op := Op.store 28 (Operand.tmp 6) (Operand.tmp 55), type := 0, pos := "siloref11.go:172", after := #[{ on := 10, ground := Ground.data }, { on := 9, ground := Ground.data }, { on := 8, ground := Ground.chain }, { on := 0, ground := Ground.phase }, { on := 1, ground := Ground.phase }, { on := 2, ground := Ground.phase }, { on := 3, ground := Ground.phase }, { on := 4, ground := Ground.phase }, { on := 5, ground := Ground.phase }, { on := 6, ground := Ground.phase }, { on := 7, ground := Ground.phase }, { on := 8, ground := Ground.phase }, { on := 9, ground := Ground.phase }, { on := 10, ground := Ground.phase }], guard := none }) rfl (fun KK hK => ?_) AllReadyH.nil
          rw [if_pos (by rfl)]
          go_simp
          have HT2 := Lib.hid (HTS.out.put (.int .i64 (st : Int)) (.int .i64 (ix : Int)) (.int .i64 (g : Int)) (.string ⟨#[]⟩))
          have hcum2 := below_put4 hcum hgs (.int .i64 (st : Int)) (.int .i64 (ix : Int)) (.int .i64 (g : Int)) (.string ⟨#[]⟩)
          refine hK.out _ _ hcum2 (fun _ => ?_)
          clear hK HTS s0 s1 s2 s3 q0 q1 q2 q3 hcum
          generalize (((V4.setCell ⟨bS, 0, none⟩ (.int .i64 (st : Int))).setCell ⟨bS, 1, none⟩ (.int .i64 (ix : Int))).setCell ⟨bS, 2, none⟩ (.int .i64 (g : Int))).setCell ⟨bS, 3, none⟩ (.string ⟨#[]⟩) = V5 at *
          have hcum := hcum2
          clear hcum2
          try simp only [Act.put, List.setIfInBounds_toArray, List.set_cons_zero, List.set_cons_succ]
          refine wpAnyH_done (by kernel_rfl) ?_ _
          go_wp2_with fail
          go_meet
          exact ⟨bS, rfl, hgs, HT2, Lib.hid hcum⟩
      case rest =>
        obtain ⟨bS, rfl, hbS, HTS4, HC4⟩ := hcut
        obtain ⟨w4, rfl⟩ : ∃ x : World, x = wc := ⟨_, rfl⟩
        have HTR4 := Lib.hid (HTr.out.below HC4.out)
        have HL4 := Lib.hid (HLr.out.below HC4.out)
        have HB4 := Lib.hid (HBr.out.trans (HC4.out.mono HBr.out.size))
        have hRS : w.heap.size < bS := by have := HTr.out.lt; omega
        clear h4 h8 h12b h13 k4 k8 k12b k13
        go_wp2_with fail
        refine (refNumber_any (T.extract 13 15) _ (by rw [ByteArray.size_extract]; omega)).mono ?_
        rintro e w' ⟨rfl, rfl⟩
        rw [HNN.out]
        by_cases hsh : T.size < 23 + nn
        · have d6 : decide (((T.size : Nat) : Int) < 15 + (nn : Int) + 8) = true := decide_eq_true (by omega)
          have HSH : Hid ((joinB l).length < 23 + nn) := by have := HCL.out; have := HTs.out; rw [Hid]; omega
          clear hsh
          have hnn := HTR4.out
          obtain ⟨r0, r1, r2, r3, r4, r5, r6, r7⟩ := hnn
          go_wp2_with fail
          obtain ⟨t0, t1, t2, t3, _, _, _, _⟩ := HTR4.out.put (.int .i64 0) (.int .i64 0) (.int .i64 0) (.string ⟨#[]⟩)
          have HN : takeO l = none := none_short (by rw [HNA.out]; exact HSH.out)
          refine bodyPost_ret (v := .tuple #[shZ, .bool false]) (by simp [results, Tryd.results32, go_sem, shZ, t0, t1, t2, t3]) rfl ⟨by rw [HN]; rfl, ?_⟩
          exact below_put4 HB4.out (Nat.le_refl _) (.int .i64 0) (.int .i64 0) (.int .i64 0) (.string ⟨#[]⟩)
        have d6 : decide (((T.size : Nat) : Int) < 15 + (nn : Int) + 8) = false := decide_eq_false (by omega)
        have i15 : (15 : Int) ≤ 15 + (nn : Int) := by omega
        have i15b : (15 : Int) + (nn : Int) ≤ ((T.size : Nat) : Int) := by omega
        have i15c : 15 + nn ≤ T.size := by omega
        have e15 : (15 + (nn : Int)).toNat = 15 + nn := by omega
        have htx2 := HTX.out.symm
        obtain ⟨s0, s1, s2, s3, q0, q1, q2, q3⟩ := HTS4.out
        clear hsh
        have HTS5 := Lib.hid (HTS4.out.put3 (.string tx))
        have hb5 : Below bS w4 (w4.setCell ⟨bS, 3, none⟩ (.string tx)) := (Below.refl bS w4).setCell (p := ⟨bS, 3, none⟩) (Nat.le_refl _) (.string tx)
        go_upto_region 15 with fail
        clear s0 s1 s2 s3 q0 q1 q2 q3 d6 i15 i15b i15c e15 htx2
        generalize w4.setCell ⟨bS, 3, none⟩ (.string tx) = w5 at *
        have hc5 := HC4.out.trans (hb5.mono hbS)
        have HTR5 := Lib.hid (HTr.out.below hc5)
        have HL5 := Lib.hid (HLr.out.below hc5)
        have HB5 := Lib.hid (HBr.out.trans (hc5.mono HBr.out.size))
        clear hc5 hb5 HTS4 HTR4 HL4 HB4 HTr HLr HBr HC4
        obtain ⟨mb, hmb⟩ : ∃ b, shardB (st : Int) (ix : Int) (g : Int) tx = b := ⟨_, rfl⟩
        have HMB := Lib.hid hmb
        obtain ⟨s0, s1, s2, s3, _, _, _, _⟩ := HTS5.out
        go_wp2_with fail
        refine (refShard_any (st : Int) (ix : Int) (g : Int) tx mb hmb w5).mono ?_
        rintro e w6 ⟨rfl, hb6⟩
        clear hmb s0 s1 s2 s3
        have HTR6 := Lib.hid (HTR5.out.below hb6)
        have HTS6 := Lib.hid (HTS5.out.below hb6)
        have HL6 := Lib.hid (HL5.out.below hb6)
        have HB6 := Lib.hid (HB5.out.trans (hb6.mono HB5.out.size))
        clear hb6
        cases mb with
        | false =>
          have hnn := HTR6.out
          obtain ⟨r0, r1, r2, r3, r4, r5, r6, r7⟩ := hnn
          go_wp2_with fail
          obtain ⟨t0, t1, t2, t3, _, _, _, _⟩ := HTR6.out.put (.int .i64 0) (.int .i64 0) (.int .i64 0) (.string ⟨#[]⟩)
          have HN : takeO l = none := none_may (by rw [HP.out]; exact HMB.out)
          refine bodyPost_ret (v := .tuple #[shZ, .bool false]) (by simp [results, Tryd.results32, go_sem, shZ, t0, t1, t2, t3]) rfl ⟨by rw [HN]; rfl, ?_⟩
          exact below_put4 HB6.out (Nat.le_refl _) (.int .i64 0) (.int .i64 0) (.int .i64 0) (.string ⟨#[]⟩)
        | true =>
          obtain ⟨s0, s1, s2, s3, _, _, _, _⟩ := HTS6.out
          go_wp2_with fail
          refine (layRef_any st ix g tx HMB.out w6).mono ?_
          rintro e w7 ⟨r, rfl, hor, hb7⟩
          obtain ⟨Ar, cr, rfl⟩ := own_shape hor
          have HSR : Hid (Strs6 w7 (.slice Ar (layS ⟨st, ix, g, tx⟩).length cr) (layS ⟨st, ix, g, tx⟩)) := RowIs.of_own hor
          clear hor s0 s1 s2 s3
          have HTR7 := Lib.hid (HTR6.out.below hb7)
          have HTS7 := Lib.hid (HTS6.out.below hb7)
          have HL7 := Lib.hid (HL6.out.below hb7)
          have HB7 := Lib.hid (HB6.out.trans (hb7.mono HB6.out.size))
          clear hb7
          have hly : (layS ⟨st, ix, g, tx⟩).length ≤ 9000000000000000000 := by
            rw [layS_len]
            have := secN_small (Sh.facts (s := ⟨st, ix, g, tx⟩) HMB.out).2.2.2.2
            omega
          have HCE := Lib.hid (eqStrs6_dec (.slice Ar (layS ⟨st, ix, g, tx⟩).length cr) (.slice A l.length c) (layS ⟨st, ix, g, tx⟩) l w7 HSR.out HL7.out hly (by omega))
          obtain ⟨eq, heq⟩ : ∃ q, q = decide (layS ⟨st, ix, g, tx⟩ = l) := ⟨_, rfl⟩
          have HEQ := Lib.hid heq
          rw [← heq] at HCE
          clear heq hly
          go_wp2_with fail
          refine HCE.out.mono ?_
          rintro e w8 ⟨rfl, hb8⟩
          clear HCE
          have HTR8 := Lib.hid (HTR7.out.below hb8)
          have HTS8 := Lib.hid (HTS7.out.below hb8)
          have HL8 := Lib.hid (HL7.out.below hb8)
          have HB8 := Lib.hid (HB7.out.trans (hb8.mono HB7.out.size))
          clear hb8
          cases eq with
          | false =>
            have hnn := HTR8.out
            obtain ⟨r0, r1, r2, r3, r4, r5, r6, r7⟩ := hnn
            go_wp2_with fail
            obtain ⟨t0, t1, t2, t3, _, _, _, _⟩ := HTR8.out.put (.int .i64 0) (.int .i64 0) (.int .i64 0) (.string ⟨#[]⟩)
            have HN : takeO l = none := none_lay (by rw [HP.out]; exact of_decide_eq_false HEQ.out.symm)
            refine bodyPost_ret (v := .tuple #[shZ, .bool false]) (by simp [results, Tryd.results32, go_sem, shZ, t0, t1, t2, t3]) rfl ⟨by rw [HN]; rfl, ?_⟩
            exact below_put4 HB8.out (Nat.le_refl _) (.int .i64 0) (.int .i64 0) (.int .i64 0) (.string ⟨#[]⟩)
          | true =>
            obtain ⟨s0, s1, s2, s3, _, _, _, _⟩ := HTS8.out
            obtain ⟨r0, r1, r2, r3, r4, r5, r6, r7⟩ := HTR8.out
            go_wp2_with fail
            obtain ⟨t0, t1, t2, t3, _, _, _, _⟩ := HTR8.out.put (.int .i64 (st : Int)) (.int .i64 (ix : Int)) (.int .i64 (g : Int)) (.string tx)
            have HN : takeO l = some ⟨st, ix, g, tx⟩ := by
              rw [← HP.out]
              exact some_of (by rw [HP.out]; exact HMB.out) (by rw [HP.out]; exact of_decide_eq_true HEQ.out.symm)
            refine bodyPost_ret (v := .tuple #[shV ⟨st, ix, g, tx⟩, .bool true]) (by simp [results, Tryd.results32, go_sem, shV, t0, t1, t2, t3]) rfl ⟨by rw [HN]; rfl, ?_⟩
            exact below_put4 HB8.out (Nat.le_refl _) (.int .i64 (st : Int)) (.int .i64 (ix : Int)) (.int .i64 (g : Int)) (.string tx)
end Go.Proofs.YtiminahobifomaaDoor
