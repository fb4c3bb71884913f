/- shard.Take. -/
import Derived.Test.YtiminahobifomaaDoorShE
import Derived.Test.YtiminahobifomaaDoorShJ
import Derived.Test.YtiminahobifomaaDoorEqS
namespace Go.Proofs.YtiminahobifomaaDoor
open Go.ChangeShapes Go.WideShapes Go.ChangeAt Go.RowKit Go.Joins Go.Shelf
set_option linter.unusedVariables false
set_option linter.unusedSimpArgs false

/-- A struct's four cells. -/
structure Cell4 (w : World) (B : Nat) (a b c d : Value) : Prop where
  c0 : w.cell? ⟨B, 0, none⟩ = some a
  c1 : w.cell? ⟨B, 1, none⟩ = some b
  c2 : w.cell? ⟨B, 2, none⟩ = some c
  c3 : w.cell? ⟨B, 3, none⟩ = some d
  f0 : w.frozen? ⟨B, 0, none⟩ = false
  f1 : w.frozen? ⟨B, 1, none⟩ = false
  f2 : w.frozen? ⟨B, 2, none⟩ = false
  f3 : w.frozen? ⟨B, 3, none⟩ = false
theorem Cell4.new (w : World) (a b c d : Value) (T : TypeId) : Cell4 (w.alloc (.cells #[a, b, c, d] T)) w.heap.size a b c d := 
  ⟨by simp [go_sem], by simp [go_sem], by simp [go_sem], by simp [go_sem], by simp [go_sem], by simp [go_sem], by simp [go_sem], by simp [go_sem]⟩
theorem Cell4.below {w w' : World} {B : Nat} {a b c d : Value} (h : Cell4 w B a b c d) (hb : Below w.heap.size w w') : Cell4 w' B a b c d := by
  have k := Kept.of_below (p := fun _ => False) hb
  have hB : B < w.heap.size := cell_block h.c0
  exact ⟨by rw [k.cell (d := ⟨B, 0, none⟩) hB id]; exact h.c0, by rw [k.cell (d := ⟨B, 1, none⟩) hB id]; exact h.c1, by rw [k.cell (d := ⟨B, 2, none⟩) hB id]; exact h.c2, by rw [k.cell (d := ⟨B, 3, none⟩) hB id]; exact h.c3,
    by rw [k.frozen (d := ⟨B, 0, none⟩) hB id]; exact h.f0, by rw [k.frozen (d := ⟨B, 1, none⟩) hB id]; exact h.f1, by rw [k.frozen (d := ⟨B, 2, none⟩) hB id]; exact h.f2, by rw [k.frozen (d := ⟨B, 3, none⟩) hB id]; exact h.f3⟩
theorem Cell4.lt {w : World} {B : Nat} {a b c d : Value} (h : Cell4 w B a b c d) : B < w.heap.size := cell_block h.c0
/-- A struct of four stored. -/
theorem Cell4.put {w : World} {B : Nat} {a b c d : Value} (h : Cell4 w B a b c d) (a' b' c' d' : Value) : Cell4 ((((w.setCell ⟨B, 0, none⟩ a').setCell ⟨B, 1, none⟩ b').setCell ⟨B, 2, none⟩ c').setCell ⟨B, 3, none⟩ d') B a' b' c' d' := by
  refine ⟨?_, ?_, ?_, ?_, by simp only [World.frozen?_setCell]; exact h.f0, by simp only [World.frozen?_setCell]; exact h.f1, by simp only [World.frozen?_setCell]; exact h.f2, by simp only [World.frozen?_setCell]; exact h.f3⟩
  · rw [World.cell?_setCell_other _ _ _ _ (by simp), World.cell?_setCell_other _ _ _ _ (by simp), World.cell?_setCell_other _ _ _ _ (by simp)]
    exact World.cell?_setCell_same' _ _ _ (by rw [h.c0]; rfl)
  · rw [World.cell?_setCell_other _ _ _ _ (by simp), World.cell?_setCell_other _ _ _ _ (by simp)]
    exact World.cell?_setCell_same' _ _ _ (by rw [World.cell?_setCell_other _ _ _ _ (by simp), h.c1]; rfl)
  · rw [World.cell?_setCell_other _ _ _ _ (by simp)]
    exact World.cell?_setCell_same' _ _ _ (by rw [World.cell?_setCell_other _ _ _ _ (by simp), World.cell?_setCell_other _ _ _ _ (by simp), h.c2]; rfl)
  · exact World.cell?_setCell_same' _ _ _ (by rw [World.cell?_setCell_other _ _ _ _ (by simp), World.cell?_setCell_other _ _ _ _ (by simp), World.cell?_setCell_other _ _ _ _ (by simp), h.c3]; rfl)
theorem below_put4 {B0 B : Nat} {w w' : World} (h : Below B0 w w') (hB : B0 ≤ B) (a b c d : Value) : Below B0 w ((((w'.setCell ⟨B, 0, none⟩ a).setCell ⟨B, 1, none⟩ b).setCell ⟨B, 2, none⟩ c).setCell ⟨B, 3, none⟩ d) :=
  (((h.setCell (p := ⟨B, 0, none⟩) hB a).setCell (p := ⟨B, 1, none⟩) hB b).setCell (p := ⟨B, 2, none⟩) hB c).setCell (p := ⟨B, 3, none⟩) hB d

def shV (s : Sh) : Value := .agg #[.int .i64 (s.st : Int), .int .i64 (s.ix : Int), .int .i64 (s.g : Int), .string s.t]
def shZ : Value := .agg #[.int .i64 0, .int .i64 0, .int .i64 0, .string ⟨#[]⟩]
def takeV : Option Sh → Value
  | some s => shV s
  | none => shZ
def takeN : Option Sh → Int
  | some _ => 0
  | none => 7

theorem numB_one (a : Nat) : numB [a] = a := by simp [numB]
theorem numAt_lt2 {c : List Nat} (h : ∀ b ∈ c, b < 256) (o : Nat) : numAt c o 2 < 65536 := by
  have h1 := numB_lt (l := (c.drop o).take 2) (fun b hb => h b (List.mem_of_mem_drop (List.mem_of_mem_take hb)))
  have h2 : ((c.drop o).take 2).length ≤ 2 := by rw [List.length_take]; omega
  exact Nat.lt_of_lt_of_le h1 (Nat.pow_le_pow_right (by decide) h2)
theorem numAt_lt4 {c : List Nat} (h : ∀ b ∈ c, b < 256) (o : Nat) : numAt c o 4 < 4294967296 := by
  have h1 := numB_lt (l := (c.drop o).take 4) (fun b hb => h b (List.mem_of_mem_drop (List.mem_of_mem_take hb)))
  have h2 : ((c.drop o).take 4).length ≤ 4 := by rw [List.length_take]; omega
  exact Nat.lt_of_lt_of_le h1 (Nat.pow_le_pow_right (by decide) h2)
theorem numAt_lt1 {c : List Nat} (h : ∀ b ∈ c, b < 256) (o : Nat) : numAt c o 1 < 256 := by
  have h1 := numB_lt (l := (c.drop o).take 1) (fun b hb => h b (List.mem_of_mem_drop (List.mem_of_mem_take hb)))
  have h2 : ((c.drop o).take 1).length ≤ 1 := by rw [List.length_take]; omega
  exact Nat.lt_of_lt_of_le h1 (Nat.pow_le_pow_right (by decide) h2)
theorem num_part {c : List Nat} (h : ∀ b ∈ c, b < 256) (a b : Nat) : numB (bytesOf ((strOf8 c).extract a b)) = numAt c a (b - a) := by
  rw [bytesOf_part, bytesOf_strOf8 h]
  rfl
theorem str_at {c : List Nat} (h : ∀ b ∈ c, b < 256) (i : Nat) (hi : i < (strOf8 c).size) : ((strOf8 c)[i]'hi).toNat = numAt c i 1 := by
  have h1 := bytesOf_take (strOf8 c) i hi
  rw [bytesOf_strOf8 h] at h1
  have h2 : i < c.length := by rw [strOf8_size] at hi; exact hi
  rw [List.take_succ_eq_append_getElem h2] at h1
  have h3 := List.append_cancel_left h1
  have e : (c.drop i).take 1 = [c[i]] := by rw [List.drop_eq_getElem_cons h2]; rfl
  rw [numAt, e, numB_one]
  injection h3 with h4
  exact h4.symm

set_option maxRecDepth 100000 in
set_option maxHeartbeats 4000000 in
theorem take12_any (v : Value) (l : List ByteArray) (w : World) (h : OwnS w v l) (hl : l.length ≤ 100000) :
    Calls Tryd.prog 8 #[v] w fun e w' => e = .returned (.tuple #[takeV (takeO l), .int .i64 (takeN (takeO l))]) ∧ Below w.heap.size w w' := by
  obtain ⟨A, c, rfl⟩ := h.shape
  obtain ⟨n, hn⟩ : ∃ n, n = l.length := ⟨_, rfl⟩
  have HNL := Lib.hid hn
  obtain ⟨oR, hoR⟩ : ∃ x, x = (Obj.cells #[.int .i64 0, .int .i64 0, .int .i64 0, .string ⟨#[]⟩] 28) := ⟨_, rfl⟩
  have tR := Cell4.new w (.int .i64 0) (.int .i64 0) (.int .i64 0) (.string ⟨#[]⟩) 28
  rw [← hoR] at tR
  have hb0 := (Below.refl w.heap.size w).alloc (Nat.le_refl _) oR
  have HL1 := Lib.hid (h.below hb0)
  have HCF : Hid (∀ W, OwnS W (.slice A n c) l → 1 ≤ n → Calls Tryd.prog 23 #[.slice A n c, .func (.func 24) #[] #[]] W fun e w' => e = .returned (.bool (oddB l)) ∧ Below W.heap.size W w') := by
    rw [hn]; exact fun W hW h1 => contains12 A c l W hW h1 (by omega)
  have HJF : Hid (∀ W, OwnS W (.slice A n c) l → (joinB l).length ≤ 10000000 → Calls Tryd.prog 25 #[.slice A n c, .string ⟨#[]⟩] W fun e w' => e = .returned (.string (strOf8 (joinB l))) ∧ Below W.heap.size W w') := by
    rw [hn]; exact fun W hW h1 => join12 A c l W hW (by omega) h1
  rw [← hn] at HL1 ⊢
  have HT := Lib.hid tR
  have HB := Lib.hid hb0
  have HBs : Hid (w.heap.size < (w.alloc oR).heap.size) := by simp [Hid]
  clear h tR hb0
  have hs120 : ((secN 120 : Nat) : Int) = 3 := by decide
  have HS120 := Lib.hid hs120
  clear hs120
  go_enter Tryd.func8, Tryd.ntmps8
  go_upto_region 1 with fail
  rw [← hoR]
  clear hoR
  generalize w.alloc oR = W0 at *
  by_cases h0 : n = 0
  · have d1 : ((n : Int) == 0) = true := by simp [h0]
    have HW : Hid (l.length = 0 ∨ 3 < l.length) := .inl (by omega)
    clear h0 hn
    have hnn := HT.out
    obtain ⟨r0, r1, r2, r3, r4, r5, r6, r7⟩ := hnn
    go_wp2_with fail
    obtain ⟨t0, t1, t2, t3, _, _, _, _⟩ := HT.out.put (.int .i64 0) (.int .i64 0) (.int .i64 0) (.string ⟨#[]⟩)
    have HN : takeO l = none := none_len HW.out
    refine bodyPost_ret (v := .tuple #[shZ, .int .i64 7]) (by simp [results, Tryd.results8, go_sem, shZ, t0, t1, t2, t3]) rfl ⟨by rw [HN]; rfl, ?_⟩
    exact below_put4 HB.out (Nat.le_refl _) (.int .i64 0) (.int .i64 0) (.int .i64 0) (.string ⟨#[]⟩)
  have d1 : ((n : Int) == 0) = false := by simp [h0]
  by_cases h3 : 3 < n
  · have d2 : decide ((3 : Int) < (n : Int)) = true := decide_eq_true (by omega)
    have HW : Hid (l.length = 0 ∨ 3 < l.length) := .inr (by omega)
    clear h0 h3 hn
    go_wp2_with fail
    refine (sized_any 120 _ (by omega)).mono ?_
    rintro e w' ⟨rfl, rfl⟩
    rw [HS120.out]
    have hnn := HT.out
    obtain ⟨r0, r1, r2, r3, r4, r5, r6, r7⟩ := hnn
    go_wp2_with fail
    obtain ⟨t0, t1, t2, t3, _, _, _, _⟩ := HT.out.put (.int .i64 0) (.int .i64 0) (.int .i64 0) (.string ⟨#[]⟩)
    have HN : takeO l = none := none_len HW.out
    refine bodyPost_ret (v := .tuple #[shZ, .int .i64 7]) (by simp [results, Tryd.results8, go_sem, shZ, t0, t1, t2, t3]) rfl ⟨by rw [HN]; rfl, ?_⟩
    exact below_put4 HB.out (Nat.le_refl _) (.int .i64 0) (.int .i64 0) (.int .i64 0) (.string ⟨#[]⟩)
  have d2 : decide ((3 : Int) < (n : Int)) = false := decide_eq_false (by omega)
  have hn1 : 1 ≤ n := by omega
  have hn3 : n ≤ 3 := by omega
  have HLN : Hid (l.length = n) := hn.symm
  clear h0 h3 hn
  go_wp2_with fail
  refine (sized_any 120 _ (by omega)).mono ?_
  rintro e w' ⟨rfl, rfl⟩
  rw [HS120.out]
  go_wp2_with fail
  refine (HCF.out _ HL1.out hn1).mono ?_
  rintro e W1 ⟨rfl, hb1⟩
  have HL2 := Lib.hid (HL1.out.below hb1)
  have HT1 := Lib.hid (HT.out.below hb1)
  have HB1 := Lib.hid (HB.out.trans (hb1.mono HB.out.size))
  clear hb1 d1 d2
  obtain ⟨od, hod⟩ : ∃ od, oddB l = od := ⟨_, rfl⟩
  have HOD := Lib.hid hod
  rw [hod]
  clear hod
  cases od with
  | true =>
    have hnn := HT1.out
    obtain ⟨r0, r1, r2, r3, r4, r5, r6, r7⟩ := hnn
    go_wp2_with fail
    obtain ⟨t0, t1, t2, t3, _, _, _, _⟩ := HT1.out.put (.int .i64 0) (.int .i64 0) (.int .i64 0) (.string ⟨#[]⟩)
    have HN : takeO l = none := by obtain ⟨x, hx, hx2⟩ := odd_yes HOD.out; exact none_size hx hx2
    refine bodyPost_ret (v := .tuple #[shZ, .int .i64 7]) (by simp [results, Tryd.results8, go_sem, shZ, t0, t1, t2, t3]) rfl ⟨by rw [HN]; rfl, ?_⟩
    exact below_put4 HB1.out (Nat.le_refl _) (.int .i64 0) (.int .i64 0) (.int .i64 0) (.string ⟨#[]⟩)
  | false =>
    have hall := odd_no HOD.out
    have hcl := joinB_len hall
    have hlt := joinB_lt l
    rw [HLN.out] at hcl
    go_wp2_with fail
    refine (HJF.out _ HL2.out (by omega)).mono ?_
    rintro e W2 ⟨rfl, hb2⟩
    have HL3 := Lib.hid (HL2.out.below hb2)
    have HT2 := Lib.hid (HT1.out.below hb2)
    have HB2 := Lib.hid (HB1.out.trans (hb2.mono HB1.out.size))
    clear hb2
    obtain ⟨T, hT⟩ : ∃ T, T = strOf8 (joinB l) := ⟨_, rfl⟩
    obtain ⟨nn, hnn⟩ : ∃ nn, nn = numAt (joinB l) 13 2 := ⟨_, rfl⟩
    obtain ⟨st, hst⟩ : ∃ nn, nn = numAt (joinB l) 4 4 := ⟨_, rfl⟩
    obtain ⟨g, hg⟩ : ∃ nn, nn = numAt (joinB l) 8 4 := ⟨_, rfl⟩
    obtain ⟨ix, hix⟩ : ∃ nn, nn = numAt (joinB l) 12 1 := ⟨_, rfl⟩
    obtain ⟨tx, htx⟩ : ∃ x, x = T.extract 15 (15 + nn) := ⟨_, rfl⟩
    have hTs : T.size = 64 * n := by rw [hT, strOf8_size, hcl]
    have HTs := Lib.hid hTs
    have h12 : 12 < T.size := by omega
    have h8 : 8 ≤ T.size := by omega
    have h12b : 12 ≤ T.size := by omega
    have k8 : (8 : Int) ≤ ((T.size : Nat) : Int) := by omega
    have k12 : (12 : Int) < ((T.size : Nat) : Int) := by omega
    have k12b : (12 : Int) ≤ ((T.size : Nat) : Int) := by omega
    have k15 : (15 : Int) ≤ ((T.size : Nat) : Int) := by omega
    have HNN : Hid (numB (bytesOf (T.extract 13 15)) = nn) := by rw [Hid, hT, num_part hlt, hnn]
    have HST : Hid (numB (bytesOf (T.extract 4 8)) = st) := by rw [Hid, hT, num_part hlt, hst]
    have HG : Hid (numB (bytesOf (T.extract 8 12)) = g) := by rw [Hid, hT, num_part hlt, hg]
    have hIX : (T[12]'h12).toNat = ix := by subst hT; rw [str_at hlt, hix]
    have wix : IntKind.i64.wrap (((T[12]'h12).toNat : Nat) : Int) = (ix : Int) := by rw [hIX]; exact IntWalk.i64_in _ (by have := numAt_lt1 hlt 12; omega)
    have HP : Hid (parseS l = ⟨st, ix, g, tx⟩) := by
      rw [Hid, parseS, parseC, ← hst, ← hix, ← hg, ← hnn, htx, hT, strOf8_part, Nat.add_sub_cancel_left]
    have hnb : nn < 65536 := by rw [hnn]; exact numAt_lt2 hlt 13
    have hsb : st < 4294967296 := by rw [hst]; exact numAt_lt4 hlt 4
    have hgb : g < 4294967296 := by rw [hg]; exact numAt_lt4 hlt 8
    have wnn : IntKind.i64.wrap (nn : Int) = (nn : Int) := IntWalk.i64_in _ (by omega)
    have wst : IntKind.i64.wrap (st : Int) = (st : Int) := IntWalk.i64_in _ (by omega)
    have wg : IntKind.i64.wrap (g : Int) = (g : Int) := IntWalk.i64_in _ (by omega)
    have w15 : IntKind.i64.wrap (15 + (nn : Int)) = 15 + (nn : Int) := IntWalk.i64_in _ (by omega)
    have HNA : Hid (numAt (joinB l) 13 2 = nn) := hnn.symm
    have HTX := Lib.hid htx
    have hT15 : 15 ≤ T.size := by omega
    rw [← hT]
    clear hT hTs hnn hst hg hix htx hIX hcl hlt hall
    go_wp2_with fail
    refine (number_any (T.extract 13 15) _ (by rw [ByteArray.size_extract]; omega)).mono ?_
    rintro e w' ⟨rfl, rfl⟩
    rw [HNN.out]
    by_cases h120 : 120 < nn
    · have d3 : decide ((120 : Int) < (nn : Int)) = true := decide_eq_true (by omega)
      have H120 := Lib.hid h120
      clear h120
      have hnn := HT2.out
      obtain ⟨r0, r1, r2, r3, r4, r5, r6, r7⟩ := hnn
      go_wp2_with fail
      obtain ⟨t0, t1, t2, t3, _, _, _, _⟩ := HT2.out.put (.int .i64 0) (.int .i64 0) (.int .i64 0) (.string ⟨#[]⟩)
      have HN : takeO l = none := none_num (.inl (by rw [HNA.out]; exact H120.out))
      refine bodyPost_ret (v := .tuple #[shZ, .int .i64 7]) (by simp [results, Tryd.results8, go_sem, shZ, t0, t1, t2, t3]) rfl ⟨by rw [HN]; rfl, ?_⟩
      exact below_put4 HB2.out (Nat.le_refl _) (.int .i64 0) (.int .i64 0) (.int .i64 0) (.string ⟨#[]⟩)
    have d3 : decide ((120 : Int) < (nn : Int)) = false := decide_eq_false (by omega)
    go_wp2_with fail
    refine (sized_any nn _ (by omega)).mono ?_
    rintro e w' ⟨rfl, rfl⟩
    obtain ⟨sn, hsn⟩ : ∃ sn, sn = secN nn := ⟨_, rfl⟩
    have HSN := Lib.hid hsn
    have hfit := secN_fit nn
    rw [← hsn] at hfit ⊢
    clear hsn
    by_cases hsq : sn ≠ n
    · have d4 : ((sn : Int) != (n : Int)) = true := by rw [bne_iff_ne]; omega
      have HSQ := Lib.hid hsq
      clear hsq
      have hnn := HT2.out
      obtain ⟨r0, r1, r2, r3, r4, r5, r6, r7⟩ := hnn
      go_wp2_with fail
      obtain ⟨t0, t1, t2, t3, _, _, _, _⟩ := HT2.out.put (.int .i64 0) (.int .i64 0) (.int .i64 0) (.string ⟨#[]⟩)
      have HN : takeO l = none := none_num (.inr (by rw [HNA.out, ← HSN.out, HLN.out]; exact HSQ.out))
      refine bodyPost_ret (v := .tuple #[shZ, .int .i64 7]) (by simp [results, Tryd.results8, go_sem, shZ, t0, t1, t2, t3]) rfl ⟨by rw [HN]; rfl, ?_⟩
      exact below_put4 HB2.out (Nat.le_refl _) (.int .i64 0) (.int .i64 0) (.int .i64 0) (.string ⟨#[]⟩)
    have d4 : ((sn : Int) != (n : Int)) = false := by rw [bne_eq_false_iff_eq]; omega
    have hx1 : 15 + nn ≤ T.size := by have := HTs.out; omega
    have hxn : nn ≤ 120 := by omega
    have i15 : (15 : Int) ≤ 15 + (nn : Int) := by omega
    have i15b : (15 : Int) + (nn : Int) ≤ ((T.size : Nat) : Int) := by omega
    have k15n : (15 : Int) + (nn : Int) ≤ ((T.size : Nat) : Int) := by omega
    have e15 : (15 + (nn : Int)).toNat = 15 + nn := by omega
    have HSN2 : Hid (sn = n) := by rw [Hid]; omega
    clear h120 hsq hfit
    obtain ⟨W3, hW3⟩ : ∃ W, W = W2 := ⟨_, rfl⟩
    go_upto_region 7 with fail
    clear d3 d4
    rw [← hW3] at HL3 HT2 HB2 ⊢
    clear hW3 HL1 HL2 HT HT1 HB1
    clear HB HBs
    obtain ⟨W0, hW0⟩ : ∃ W, W = W3 := ⟨_, rfl⟩
    rw [← hW0] at HL3 HT2 HB2 ⊢
    clear hW0
    go_cut [6] from 37 to 52 (fun pv wx => ∃ bS, pv = .pointer (some ⟨bS, 0, none⟩) ∧ W0.heap.size ≤ bS ∧ Hid (Cell4 wx bS (.int .i64 (st : Int)) (.int .i64 (ix : Int)) (.int .i64 (g : Int)) (.string tx)) ∧ Hid (Below W0.heap.size W0 wx))
    case first =>
      have htx := HTX.out.symm
      refine wp_region_held (S := fun W' => Below W0.heap.size W0 W') (by kernel_rfl) ?_
      change wpAnyH _ _ _ _ _ 18 _ _ W0.drew
      have hcum := (Below.refl W0.heap.size W0).drew
      generalize W0.drew = V0 at *
      refine wpAnyH_take (i := 0) (oi := { dst := some 37, op := Op.move (Operand.tmp 4), type := 9, pos := "shard.go:80", after := #[], guard := none }) (v := ?_) rfl (by kernel_rfl) (by kernel_rfl) (by kernel_rfl) (fun _ _ _ h => h) (Or.inl ⟨by rfl, fun W' hW' => ?_⟩) hcum ?_
      rotate_left 1
      · go_simp
        try rfl
      try simp only [Act.put, List.setIfInBounds_toArray, List.set_cons_zero, List.set_cons_succ]
      refine wpAnyH_take (i := 1) (oi := { dst := some 38, op := Op.slice 9 (Operand.tmp 37) (some (Operand.const (Value.int IntKind.i64 4))) (some (Operand.const (Value.int IntKind.i64 8))) none, type := 9, pos := "shard.go:80", after := #[{ on := 0, ground := Ground.data }], guard := none }) (v := ?_) rfl (by kernel_rfl) (by kernel_rfl) (by kernel_rfl) (fun _ _ _ h => h) (Or.inl ⟨by rfl, fun W' hW' => ?_⟩) hcum ?_
      rotate_left 1
      · go_simp
        try rfl
      try simp only [Act.put, List.setIfInBounds_toArray, List.set_cons_zero, List.set_cons_succ]
      refine wpAnyH_take (i := 4) (oi := { dst := some 41, op := Op.move (Operand.tmp 4), type := 9, pos := "shard.go:80", after := #[], guard := none }) (v := ?_) rfl (by kernel_rfl) (by kernel_rfl) (by kernel_rfl) (fun _ _ _ h => h) (Or.inl ⟨by rfl, fun W' hW' => ?_⟩) hcum ?_
      rotate_left 1
      · go_simp
        try rfl
      try simp only [Act.put, List.setIfInBounds_toArray, List.set_cons_zero, List.set_cons_succ]
      refine wpAnyH_take (i := 5) (oi := { dst := some 42, op := Op.slice 9 (Operand.tmp 41) (some (Operand.const (Value.int IntKind.i64 8))) (some (Operand.const (Value.int IntKind.i64 12))) none, type := 9, pos := "shard.go:80", after := #[{ on := 4, ground := Ground.data }], guard := none }) (v := ?_) rfl (by kernel_rfl) (by kernel_rfl) (by kernel_rfl) (fun _ _ _ h => h) (Or.inl ⟨by rfl, fun W' hW' => ?_⟩) hcum ?_
      rotate_left 1
      · go_simp
        try rfl
      try simp only [Act.put, List.setIfInBounds_toArray, List.set_cons_zero, List.set_cons_succ]
      refine wpAnyH_take (i := 8) (oi := { dst := some 45, op := Op.move (Operand.tmp 4), type := 9, pos := "shard.go:80", after := #[], guard := none }) (v := ?_) rfl (by kernel_rfl) (by kernel_rfl) (by kernel_rfl) (fun _ _ _ h => h) (Or.inl ⟨by rfl, fun W' hW' => ?_⟩) hcum ?_
      rotate_left 1
      · go_simp
        try rfl
      try simp only [Act.put, List.setIfInBounds_toArray, List.set_cons_zero, List.set_cons_succ]
      refine wpAnyH_take (i := 9) (oi := { dst := some 46, op := Op.index 9 (Operand.tmp 45) (Operand.const (Value.int IntKind.i64 12)), type := 5, pos := "shard.go:80", after := #[{ on := 8, ground := Ground.data }], guard := none }) (v := ?_) rfl (by kernel_rfl) (by kernel_rfl) (by kernel_rfl) (fun _ _ _ h => h) (Or.inl ⟨by rfl, fun W' hW' => ?_⟩) hcum ?_
      rotate_left 1
      · go_simp
        try rfl
      try simp only [Act.put, List.setIfInBounds_toArray, List.set_cons_zero, List.set_cons_succ]
      refine wpAnyH_take (i := 10) (oi := { dst := some 47, op := Op.convert 5 3 (Operand.tmp 46), type := 3, pos := "shard.go:80", after := #[{ on := 9, ground := Ground.data }], guard := none }) (v := ?_) rfl (by kernel_rfl) (by kernel_rfl) (by kernel_rfl) (fun _ _ _ h => h) (Or.inl ⟨by rfl, fun W' hW' => ?_⟩) hcum ?_
      rotate_left 1
      · (skip; go_simp)
        try rfl
      try simp only [Act.put, List.setIfInBounds_toArray, List.set_cons_zero, List.set_cons_succ]
      refine wpAnyH_take (i := 11) (oi := { dst := some 48, op := Op.move (Operand.tmp 4), type := 9, pos := "shard.go:80", after := #[], guard := none }) (v := ?_) rfl (by kernel_rfl) (by kernel_rfl) (by kernel_rfl) (fun _ _ _ h => h) (Or.inl ⟨by rfl, fun W' hW' => ?_⟩) hcum ?_
      rotate_left 1
      · go_simp
        try rfl
      try simp only [Act.put, List.setIfInBounds_toArray, List.set_cons_zero, List.set_cons_succ]
      refine wpAnyH_take (i := 12) (oi := { dst := some 49, op := Op.move (Operand.tmp 5), type := 3, pos := "shard.go:80", after := #[], guard := none }) (v := ?_) rfl (by kernel_rfl) (by kernel_rfl) (by kernel_rfl) (fun _ _ _ h => h) (Or.inl ⟨by rfl, fun W' hW' => ?_⟩) hcum ?_
      rotate_left 1
      · go_simp
        try rfl
      try simp only [Act.put, List.setIfInBounds_toArray, List.set_cons_zero, List.set_cons_succ]
      refine wpAnyH_take (i := 13) (oi := { dst := some 50, op := Op.binOp BinOp.add 3 (Operand.const (Value.int IntKind.i64 15)) (Operand.tmp 49) 3, type := 3, pos := "shard.go:80", after := #[{ on := 12, ground := Ground.data }], guard := none }) (v := ?_) rfl (by kernel_rfl) (by kernel_rfl) (by kernel_rfl) (fun _ _ _ h => h) (Or.inl ⟨by rfl, fun W' hW' => ?_⟩) hcum ?_
      rotate_left 1
      · go_simp
        try rfl
      try simp only [Act.put, List.setIfInBounds_toArray, List.set_cons_zero, List.set_cons_succ]
      refine wpAnyH_take (i := 14) (oi := { dst := some 51, op := Op.slice 9 (Operand.tmp 48) (some (Operand.const (Value.int IntKind.i64 15))) (some (Operand.tmp 50)) none, type := 9, pos := "shard.go:80", after := #[{ on := 11, ground := Ground.data }, { on := 13, ground := Ground.data }], guard := none }) (v := ?_) rfl (by kernel_rfl) (by kernel_rfl) (by kernel_rfl) (fun _ _ _ h => h) (Or.inl ⟨by rfl, fun W' hW' => ?_⟩) hcum ?_
      rotate_left 1
      · go_simp
        try rfl
      try simp only [Act.put, List.setIfInBounds_toArray, List.set_cons_zero, List.set_cons_succ]
      refine wpAnyH_ready (rs := [2, 16]) (by kernel_rfl) (by simp) ?_
      refine AllReadyH.cons (o := { dst := some 39, op := Op.call { callee := Callee.value (Operand.func 26), args := #[Operand.tmp 38], argTypes := #[9] }, type := 51, pos := "shard.go:80", after := #[{ on := 1, ground := Ground.data }], guard := none }) rfl (fun KK hK => ?_) (AllReadyH.cons (o := { dst := some 6, op := Op.alloc 28, type := 0, pos := "shard.go:80", after := #[], guard := none }) rfl (fun KK hK => ?_) AllReadyH.nil)
      · rw [if_pos (by rfl)]
        go_simp
        refine (number_any (T.extract 4 8) V0 (by rw [ByteArray.size_extract]; omega)).mono ?_
        rintro e V1 ⟨rfl, hVW⟩
        replace hVW := hVW.symm
        subst hVW
        have hbe := Below.refl V1.heap.size V1
        rw [HST.out]
        have hcum := hcum.trans (hbe.mono hcum.size)
        refine hK.out _ _ hcum (fun _ => ?_)
        clear hK hbe
        try simp only [Act.put, List.setIfInBounds_toArray, List.set_cons_zero, List.set_cons_succ]
        refine wpAnyH_take (i := 3) (oi := { dst := some 40, op := Op.convert 51 3 (Operand.tmp 39), type := 3, pos := "shard.go:80", after := #[{ on := 2, ground := Ground.data }], guard := none }) (v := ?_) rfl (by kernel_rfl) (by kernel_rfl) (by kernel_rfl) (fun _ _ _ h => h) (Or.inl ⟨by rfl, fun W' hW' => ?_⟩) hcum ?_
        rotate_left 1
        · (skip; go_simp)
          try rfl
        try simp only [Act.put, List.setIfInBounds_toArray, List.set_cons_zero, List.set_cons_succ]
        refine wpAnyH_ready (rs := [6, 16]) (by kernel_rfl) (by simp) ?_
        refine AllReadyH.cons (o := { dst := some 43, op := Op.call { callee := Callee.value (Operand.func 26), args := #[Operand.tmp 42], argTypes := #[9] }, type := 51, pos := "shard.go:80", after := #[{ on := 5, ground := Ground.data }, { on := 2, ground := Ground.chain }], guard := none }) rfl (fun KK hK => ?_) (AllReadyH.cons (o := { dst := some 6, op := Op.alloc 28, type := 0, pos := "shard.go:80", after := #[], guard := none }) rfl (fun KK hK => ?_) AllReadyH.nil)
        · rw [if_pos (by rfl)]
          go_simp
          refine (number_any (T.extract 8 12) V1 (by rw [ByteArray.size_extract]; omega)).mono ?_
          rintro e V2 ⟨rfl, hVW⟩
          replace hVW := hVW.symm
          subst hVW
          have hbe := Below.refl V2.heap.size V2
          rw [HG.out]
          have hcum := hcum.trans (hbe.mono hcum.size)
          refine hK.out _ _ hcum (fun _ => ?_)
          clear hK hbe
          try simp only [Act.put, List.setIfInBounds_toArray, List.set_cons_zero, List.set_cons_succ]
          refine wpAnyH_take (i := 7) (oi := { dst := some 44, op := Op.convert 51 3 (Operand.tmp 43), type := 3, pos := "shard.go:80", after := #[{ on := 6, ground := Ground.data }], guard := none }) (v := ?_) rfl (by kernel_rfl) (by kernel_rfl) (by kernel_rfl) (fun _ _ _ h => h) (Or.inl ⟨by rfl, fun W' hW' => ?_⟩) hcum ?_
          rotate_left 1
          · (skip; go_simp)
            try rfl
          try simp only [Act.put, List.setIfInBounds_toArray, List.set_cons_zero, List.set_cons_succ]
          refine wpAnyH_take (i := 15) (oi := { dst := some 52, op := Op.build 28 #[(0, Operand.tmp 40), (2, Operand.tmp 44), (1, Operand.tmp 47), (3, Operand.tmp 51)], type := 28, pos := "shard.go:80", after := #[{ on := 3, ground := Ground.data }, { on := 7, ground := Ground.data }, { on := 10, ground := Ground.data }, { on := 14, ground := Ground.data }], guard := none }) (v := ?_) rfl (by kernel_rfl) (by kernel_rfl) (by kernel_rfl) (fun _ _ _ h => h) (Or.inl ⟨by rfl, fun W' hW' => ?_⟩) hcum ?_
          rotate_left 1
          · go_simp
            try rfl
          try simp only [Act.put, List.setIfInBounds_toArray, List.set_cons_zero, List.set_cons_succ]
          refine wpAnyH_ready (rs := [16]) (by kernel_rfl) (by simp) ?_
          refine AllReadyH.cons (o := { dst := some 6, op := Op.alloc 28, type := 0, pos := "shard.go:80", after := #[], guard := none }) rfl (fun KK hK => ?_) AllReadyH.nil
          rw [if_pos (by rfl)]
          go_simp
          have tS := Cell4.new V2 (.int .i64 0) (.int .i64 0) (.int .i64 0) (.string ⟨#[]⟩) 28
          have hgs : W0.heap.size ≤ V2.heap.size := hcum.size
          have hbe := (Below.refl W0.heap.size V2).alloc hcum.size (.cells #[.int .i64 0, .int .i64 0, .int .i64 0, .string ⟨#[]⟩] 28)
          replace hcum := hcum.trans hbe
          refine hK.out _ _ hcum (fun _ => ?_)
          clear hK hbe
          generalize V2.alloc (.cells #[.int .i64 0, .int .i64 0, .int .i64 0, .string ⟨#[]⟩] 28) = V3 at *
          generalize V2.heap.size = bS at *
          have HTS := Lib.hid tS
          obtain ⟨s0, s1, s2, s3, q0, q1, q2, q3⟩ := tS
          try simp only [Act.put, List.setIfInBounds_toArray, List.set_cons_zero, List.set_cons_succ]
          refine wpAnyH_ready (rs := [17]) (by kernel_rfl) (by simp) ?_
          refine AllReadyH.cons (o := { dst := none, op := Op.store 28 (Operand.tmp 6) (Operand.tmp 52), type := 0, pos := "shard.go:80", after := #[{ on := 16, ground := Ground.data }, { on := 15, ground := Ground.data }, { on := 6, ground := Ground.chain }, { on := 0, ground := Ground.phase }, { on := 1, ground := Ground.phase }, { on := 2, ground := Ground.phase }, { on := 3, ground := Ground.phase }, { on := 4, ground := Ground.phase }, { on := 5, ground := Ground.phase }, { on := 6, ground := Ground.phase }, { on := 7, ground := Ground.phase }, { on := 8, ground := Ground.phase }, { on := 9, ground := Ground.phase }, { on := 10, ground := Ground.phase }, { on := 11, ground := Ground.phase }, { on := 12, ground := Ground.phase }, { on := 13, ground := Ground.phase }, { on := 14, ground := Ground.phase }, { on := 15, ground := Ground.phase }, { on := 16, ground := Ground.phase }], guard := none }) rfl (fun KK hK => ?_) AllReadyH.nil
          rw [if_pos (by rfl)]
          go_simp
          have HT2 := Lib.hid (HTS.out.put (.int .i64 (st : Int)) (.int .i64 (ix : Int)) (.int .i64 (g : Int)) (.string tx))
          have hcum2 := below_put4 hcum hgs (.int .i64 (st : Int)) (.int .i64 (ix : Int)) (.int .i64 (g : Int)) (.string tx)
          refine hK.out _ _ hcum2 (fun _ => ?_)
          clear hK HTS s0 s1 s2 s3 q0 q1 q2 q3 hcum
          generalize (((V3.setCell ⟨bS, 0, none⟩ (.int .i64 (st : Int))).setCell ⟨bS, 1, none⟩ (.int .i64 (ix : Int))).setCell ⟨bS, 2, none⟩ (.int .i64 (g : Int))).setCell ⟨bS, 3, none⟩ (.string tx) = V4 at *
          have hcum := hcum2
          clear hcum2
          try simp only [Act.put, List.setIfInBounds_toArray, List.set_cons_zero, List.set_cons_succ]
          refine wpAnyH_done (by kernel_rfl) ?_ _
          go_wp2_with fail
          go_meet
          exact ⟨bS, rfl, hgs, HT2, Lib.hid hcum⟩
        · rw [if_pos (by rfl)]
          go_simp
          have tS := Cell4.new V1 (.int .i64 0) (.int .i64 0) (.int .i64 0) (.string ⟨#[]⟩) 28
          have hgs : W0.heap.size ≤ V1.heap.size := hcum.size
          have hbe := (Below.refl W0.heap.size V1).alloc hcum.size (.cells #[.int .i64 0, .int .i64 0, .int .i64 0, .string ⟨#[]⟩] 28)
          replace hcum := hcum.trans hbe
          refine hK.out _ _ hcum (fun _ => ?_)
          clear hK hbe
          generalize V1.alloc (.cells #[.int .i64 0, .int .i64 0, .int .i64 0, .string ⟨#[]⟩] 28) = V2 at *
          generalize V1.heap.size = bS at *
          have HTS := Lib.hid tS
          obtain ⟨s0, s1, s2, s3, q0, q1, q2, q3⟩ := tS
          try simp only [Act.put, List.setIfInBounds_toArray, List.set_cons_zero, List.set_cons_succ]
          refine wpAnyH_ready (rs := [6]) (by kernel_rfl) (by simp) ?_
          refine AllReadyH.cons (o := { dst := some 43, op := Op.call { callee := Callee.value (Operand.func 26), args := #[Operand.tmp 42], argTypes := #[9] }, type := 51, pos := "shard.go:80", after := #[{ on := 5, ground := Ground.data }, { on := 2, ground := Ground.chain }], guard := none }) rfl (fun KK hK => ?_) AllReadyH.nil
          rw [if_pos (by rfl)]
          go_simp
          refine (number_any (T.extract 8 12) V2 (by rw [ByteArray.size_extract]; omega)).mono ?_
          rintro e V3 ⟨rfl, hVW⟩
          replace hVW := hVW.symm
          subst hVW
          have hbe := Below.refl V3.heap.size V3
          rw [HG.out]
          have hcum := hcum.trans (hbe.mono hcum.size)
          refine hK.out _ _ hcum (fun _ => ?_)
          clear hK hbe
          try simp only [Act.put, List.setIfInBounds_toArray, List.set_cons_zero, List.set_cons_succ]
          refine wpAnyH_take (i := 7) (oi := { dst := some 44, op := Op.convert 51 3 (Operand.tmp 43), type := 3, pos := "shard.go:80", after := #[{ on := 6, ground := Ground.data }], guard := none }) (v := ?_) rfl (by kernel_rfl) (by kernel_rfl) (by kernel_rfl) (fun _ _ _ h => h) (Or.inl ⟨by rfl, fun W' hW' => ?_⟩) hcum ?_
          rotate_left 1
          · (skip; go_simp)
            try rfl
          try simp only [Act.put, List.setIfInBounds_toArray, List.set_cons_zero, List.set_cons_succ]
          refine wpAnyH_take (i := 15) (oi := { dst := some 52, op := Op.build 28 #[(0, Operand.tmp 40), (2, Operand.tmp 44), (1, Operand.tmp 47), (3, Operand.tmp 51)], type := 28, pos := "shard.go:80", after := #[{ on := 3, ground := Ground.data }, { on := 7, ground := Ground.data }, { on := 10, ground := Ground.data }, { on := 14, ground := Ground.data }], guard := none }) (v := ?_) rfl (by kernel_rfl) (by kernel_rfl) (by kernel_rfl) (fun _ _ _ h => h) (Or.inl ⟨by rfl, fun W' hW' => ?_⟩) hcum ?_
          rotate_left 1
          · go_simp
            try rfl
          try simp only [Act.put, List.setIfInBounds_toArray, List.set_cons_zero, List.set_cons_succ]
          refine wpAnyH_ready (rs := [17]) (by kernel_rfl) (by simp) ?_
          refine AllReadyH.cons (o := { dst := none, op := Op.store 28 (Operand.tmp 6) (Operand.tmp 52), type := 0, pos := "shard.go:80", after := #[{ on := 16, ground := Ground.data }, { on := 15, ground := Ground.data }, { on := 6, ground := Ground.chain }, { on := 0, ground := Ground.phase }, { on := 1, ground := Ground.phase }, { on := 2, ground := Ground.phase }, { on := 3, ground := Ground.phase }, { on := 4, ground := Ground.phase }, { on := 5, ground := Ground.phase }, { on := 6, ground := Ground.phase }, { on := 7, ground := Ground.phase }, { on := 8, ground := Ground.phase }, { on := 9, ground := Ground.phase }, { on := 10, ground := Ground.phase }, { on := 11, ground := Ground.phase }, { on := 12, ground := Ground.phase }, { on := 13, ground := Ground.phase }, { on := 14, ground := Ground.phase }, { on := 15, ground := Ground.phase }, { on := 16, ground := Ground.phase }], guard := none }) rfl (fun KK hK => ?_) AllReadyH.nil
          rw [if_pos (by rfl)]
          go_simp
          have HT2 := Lib.hid (HTS.out.put (.int .i64 (st : Int)) (.int .i64 (ix : Int)) (.int .i64 (g : Int)) (.string tx))
          have hcum2 := below_put4 hcum hgs (.int .i64 (st : Int)) (.int .i64 (ix : Int)) (.int .i64 (g : Int)) (.string tx)
          refine hK.out _ _ hcum2 (fun _ => ?_)
          clear hK HTS s0 s1 s2 s3 q0 q1 q2 q3 hcum
          generalize (((V3.setCell ⟨bS, 0, none⟩ (.int .i64 (st : Int))).setCell ⟨bS, 1, none⟩ (.int .i64 (ix : Int))).setCell ⟨bS, 2, none⟩ (.int .i64 (g : Int))).setCell ⟨bS, 3, none⟩ (.string tx) = V4 at *
          have hcum := hcum2
          clear hcum2
          try simp only [Act.put, List.setIfInBounds_toArray, List.set_cons_zero, List.set_cons_succ]
          refine wpAnyH_done (by kernel_rfl) ?_ _
          go_wp2_with fail
          go_meet
          exact ⟨bS, rfl, hgs, HT2, Lib.hid hcum⟩
      · rw [if_pos (by rfl)]
        go_simp
        have tS := Cell4.new V0 (.int .i64 0) (.int .i64 0) (.int .i64 0) (.string ⟨#[]⟩) 28
        have hgs : W0.heap.size ≤ V0.heap.size := hcum.size
        have hbe := (Below.refl W0.heap.size V0).alloc hcum.size (.cells #[.int .i64 0, .int .i64 0, .int .i64 0, .string ⟨#[]⟩] 28)
        replace hcum := hcum.trans hbe
        refine hK.out _ _ hcum (fun _ => ?_)
        clear hK hbe
        generalize V0.alloc (.cells #[.int .i64 0, .int .i64 0, .int .i64 0, .string ⟨#[]⟩] 28) = V1 at *
        generalize V0.heap.size = bS at *
        have HTS := Lib.hid tS
        obtain ⟨s0, s1, s2, s3, q0, q1, q2, q3⟩ := tS
        try simp only [Act.put, List.setIfInBounds_toArray, List.set_cons_zero, List.set_cons_succ]
        refine wpAnyH_ready (rs := [2]) (by kernel_rfl) (by simp) ?_
        refine AllReadyH.cons (o := { dst := some 39, op := Op.call { callee := Callee.value (Operand.func 26), args := #[Operand.tmp 38], argTypes := #[9] }, type := 51, pos := "shard.go:80", after := #[{ on := 1, ground := Ground.data }], guard := none }) rfl (fun KK hK => ?_) AllReadyH.nil
        rw [if_pos (by rfl)]
        go_simp
        refine (number_any (T.extract 4 8) V1 (by rw [ByteArray.size_extract]; omega)).mono ?_
        rintro e V2 ⟨rfl, hVW⟩
        replace hVW := hVW.symm
        subst hVW
        have hbe := Below.refl V2.heap.size V2
        rw [HST.out]
        have hcum := hcum.trans (hbe.mono hcum.size)
        refine hK.out _ _ hcum (fun _ => ?_)
        clear hK hbe
        try simp only [Act.put, List.setIfInBounds_toArray, List.set_cons_zero, List.set_cons_succ]
        refine wpAnyH_take (i := 3) (oi := { dst := some 40, op := Op.convert 51 3 (Operand.tmp 39), type := 3, pos := "shard.go:80", after := #[{ on := 2, ground := Ground.data }], guard := none }) (v := ?_) rfl (by kernel_rfl) (by kernel_rfl) (by kernel_rfl) (fun _ _ _ h => h) (Or.inl ⟨by rfl, fun W' hW' => ?_⟩) hcum ?_
        rotate_left 1
        · (skip; go_simp)
          try rfl
        try simp only [Act.put, List.setIfInBounds_toArray, List.set_cons_zero, List.set_cons_succ]
        refine wpAnyH_ready (rs := [6]) (by kernel_rfl) (by simp) ?_
        refine AllReadyH.cons (o := { dst := some 43, op := Op.call { callee := Callee.value (Operand.func 26), args := #[Operand.tmp 42], argTypes := #[9] }, type := 51, pos := "shard.go:80", after := #[{ on := 5, ground := Ground.data }, { on := 2, ground := Ground.chain }], guard := none }) rfl (fun KK hK => ?_) AllReadyH.nil
        rw [if_pos (by rfl)]
        go_simp
        refine (number_any (T.extract 8 12) V2 (by rw [ByteArray.size_extract]; omega)).mono ?_
        rintro e V3 ⟨rfl, hVW⟩
        replace hVW := hVW.symm
        subst hVW
        have hbe := Below.refl V3.heap.size V3
        rw [HG.out]
        have hcum := hcum.trans (hbe.mono hcum.size)
        refine hK.out _ _ hcum (fun _ => ?_)
        clear hK hbe
        try simp only [Act.put, List.setIfInBounds_toArray, List.set_cons_zero, List.set_cons_succ]
        refine wpAnyH_take (i := 7) (oi := { dst := some 44, op := Op.convert 51 3 (Operand.tmp 43), type := 3, pos := "shard.go:80", after := #[{ on := 6, ground := Ground.data }], guard := none }) (v := ?_) rfl (by kernel_rfl) (by kernel_rfl) (by kernel_rfl) (fun _ _ _ h => h) (Or.inl ⟨by rfl, fun W' hW' => ?_⟩) hcum ?_
        rotate_left 1
        · (skip; go_simp)
          try rfl
        try simp only [Act.put, List.setIfInBounds_toArray, List.set_cons_zero, List.set_cons_succ]
        refine wpAnyH_take (i := 15) (oi := { dst := some 52, op := Op.build 28 #[(0, Operand.tmp 40), (2, Operand.tmp 44), (1, Operand.tmp 47), (3, Operand.tmp 51)], type := 28, pos := "shard.go:80", after := #[{ on := 3, ground := Ground.data }, { on := 7, ground := Ground.data }, { on := 10, ground := Ground.data }, { on := 14, ground := Ground.data }], guard := none }) (v := ?_) rfl (by kernel_rfl) (by kernel_rfl) (by kernel_rfl) (fun _ _ _ h => h) (Or.inl ⟨by rfl, fun W' hW' => ?_⟩) hcum ?_
        rotate_left 1
        · go_simp
          try rfl
        try simp only [Act.put, List.setIfInBounds_toArray, List.set_cons_zero, List.set_cons_succ]
        refine wpAnyH_ready (rs := [17]) (by kernel_rfl) (by simp) ?_
        refine AllReadyH.cons (o := { dst := none, op := Op.store 28 (Operand.tmp 6) (Operand.tmp 52), type := 0, pos := "shard.go:80", after := #[{ on := 16, ground := Ground.data }, { on := 15, ground := Ground.data }, { on := 6, ground := Ground.chain }, { on := 0, ground := Ground.phase }, { on := 1, ground := Ground.phase }, { on := 2, ground := Ground.phase }, { on := 3, ground := Ground.phase }, { on := 4, ground := Ground.phase }, { on := 5, ground := Ground.phase }, { on := 6, ground := Ground.phase }, { on := 7, ground := Ground.phase }, { on := 8, ground := Ground.phase }, { on := 9, ground := Ground.phase }, { on := 10, ground := Ground.phase }, { on := 11, ground := Ground.phase }, { on := 12, ground := Ground.phase }, { on := 13, ground := Ground.phase }, { on := 14, ground := Ground.phase }, { on := 15, ground := Ground.phase }, { on := 16, ground := Ground.phase }], guard := none }) rfl (fun KK hK => ?_) AllReadyH.nil
        rw [if_pos (by rfl)]
        go_simp
        have HT2 := Lib.hid (HTS.out.put (.int .i64 (st : Int)) (.int .i64 (ix : Int)) (.int .i64 (g : Int)) (.string tx))
        have hcum2 := below_put4 hcum hgs (.int .i64 (st : Int)) (.int .i64 (ix : Int)) (.int .i64 (g : Int)) (.string tx)
        refine hK.out _ _ hcum2 (fun _ => ?_)
        clear hK HTS s0 s1 s2 s3 q0 q1 q2 q3 hcum
        generalize (((V3.setCell ⟨bS, 0, none⟩ (.int .i64 (st : Int))).setCell ⟨bS, 1, none⟩ (.int .i64 (ix : Int))).setCell ⟨bS, 2, none⟩ (.int .i64 (g : Int))).setCell ⟨bS, 3, none⟩ (.string tx) = V4 at *
        have hcum := hcum2
        clear hcum2
        try simp only [Act.put, List.setIfInBounds_toArray, List.set_cons_zero, List.set_cons_succ]
        refine wpAnyH_done (by kernel_rfl) ?_ _
        go_wp2_with fail
        go_meet
        exact ⟨bS, rfl, hgs, HT2, Lib.hid hcum⟩
    case rest =>
      obtain ⟨bS, rfl, hbS, HTS4, HC4⟩ := hcut
      obtain ⟨w4, rfl⟩ : ∃ x : World, x = wc := ⟨_, rfl⟩
      have HTR4 := Lib.hid (HT2.out.below HC4.out)
      have HL4 := Lib.hid (HL3.out.below HC4.out)
      have HB4 := Lib.hid (HB2.out.trans (HC4.out.mono HB2.out.size))
      have hRS : w.heap.size < bS := by have := HT2.out.lt; omega
      clear HT2 HL3 HB2 HC4 hx1 h8 h12b h12 k8 k12 k12b k15 wix w15 hT15 i15 i15b e15 k15n wnn wst wg hnb hsb hgb hbS
      obtain ⟨mb, hmb⟩ : ∃ b, shardB (st : Int) (ix : Int) (g : Int) tx = b := ⟨_, rfl⟩
      have HMB := Lib.hid hmb
      obtain ⟨s0, s1, s2, s3, _, _, _, _⟩ := HTS4.out
      go_wp2_with fail
      refine (shMay_any (st : Int) (ix : Int) (g : Int) tx mb hmb w4).mono ?_
      rintro e w5 ⟨rfl, hb5⟩
      clear hmb s0 s1 s2 s3
      have HTR5 := Lib.hid (HTR4.out.below hb5)
      have HTS5 := Lib.hid (HTS4.out.below hb5)
      have HL5 := Lib.hid (HL4.out.below hb5)
      have HB5 := Lib.hid (HB4.out.trans (hb5.mono HB4.out.size))
      clear hb5
      cases mb with
      | false =>
        have hnn := HTR5.out
        obtain ⟨r0, r1, r2, r3, r4, r5, r6, r7⟩ := hnn
        go_wp2_with fail
        obtain ⟨t0, t1, t2, t3, _, _, _, _⟩ := HTR5.out.put (.int .i64 0) (.int .i64 0) (.int .i64 0) (.string ⟨#[]⟩)
        have HN : takeO l = none := none_may (by rw [HP.out]; exact HMB.out)
        refine bodyPost_ret (v := .tuple #[shZ, .int .i64 7]) (by simp [results, Tryd.results8, go_sem, shZ, t0, t1, t2, t3]) rfl ⟨by rw [HN]; rfl, ?_⟩
        exact below_put4 HB5.out (Nat.le_refl _) (.int .i64 0) (.int .i64 0) (.int .i64 0) (.string ⟨#[]⟩)
      | true =>
        obtain ⟨s0, s1, s2, s3, _, _, _, _⟩ := HTS5.out
        go_wp2_with fail
        refine (spelt_any st ix g tx HMB.out w5).mono ?_
        rintro e w6 ⟨r, rfl, hor, hb6⟩
        obtain ⟨Ar, cr, rfl⟩ := own_shape hor
        have HSR : Hid (Strs6 w6 (.slice Ar (layS ⟨st, ix, g, tx⟩).length cr) (layS ⟨st, ix, g, tx⟩)) := RowIs.of_own hor
        clear hor s0 s1 s2 s3
        have HTR6 := Lib.hid (HTR5.out.below hb6)
        have HTS6 := Lib.hid (HTS5.out.below hb6)
        have HL6 := Lib.hid (HL5.out.below hb6)
        have HB6 := Lib.hid (HB5.out.trans (hb6.mono HB5.out.size))
        clear hb6
        have hly : (layS ⟨st, ix, g, tx⟩).length ≤ 9000000000000000000 := by
          rw [layS_len]
          have := secN_small (Sh.facts (s := ⟨st, ix, g, tx⟩) HMB.out).2.2.2.2
          omega
        have HCE := Lib.hid (eqSl_dec (.slice Ar (layS ⟨st, ix, g, tx⟩).length cr) (.slice A n c) (layS ⟨st, ix, g, tx⟩) l w6 HSR.out HL6.out.strs hly (by omega))
        obtain ⟨eq, heq⟩ : ∃ q, q = decide (layS ⟨st, ix, g, tx⟩ = l) := ⟨_, rfl⟩
        have HEQ := Lib.hid heq
        rw [← heq] at HCE
        clear heq hly
        go_wp2_with fail
        refine HCE.out.mono ?_
        rintro e w7 ⟨rfl, hb7⟩
        clear HCE
        have HTR7 := Lib.hid (HTR6.out.below hb7)
        have HTS7 := Lib.hid (HTS6.out.below hb7)
        have HL7 := Lib.hid (HL6.out.below hb7)
        have HB7 := Lib.hid (HB6.out.trans (hb7.mono HB6.out.size))
        clear hb7
        cases eq with
        | false =>
          have hnn := HTR7.out
          obtain ⟨r0, r1, r2, r3, r4, r5, r6, r7⟩ := hnn
          go_wp2_with fail
          obtain ⟨t0, t1, t2, t3, _, _, _, _⟩ := HTR7.out.put (.int .i64 0) (.int .i64 0) (.int .i64 0) (.string ⟨#[]⟩)
          have HN : takeO l = none := none_lay (by rw [HP.out]; exact of_decide_eq_false HEQ.out.symm)
          refine bodyPost_ret (v := .tuple #[shZ, .int .i64 7]) (by simp [results, Tryd.results8, go_sem, shZ, t0, t1, t2, t3]) rfl ⟨by rw [HN]; rfl, ?_⟩
          exact below_put4 HB7.out (Nat.le_refl _) (.int .i64 0) (.int .i64 0) (.int .i64 0) (.string ⟨#[]⟩)
        | true =>
          obtain ⟨s0, s1, s2, s3, _, _, _, _⟩ := HTS7.out
          obtain ⟨r0, r1, r2, r3, r4, r5, r6, r7⟩ := HTR7.out
          go_wp2_with fail
          obtain ⟨t0, t1, t2, t3, _, _, _, _⟩ := HTR7.out.put (.int .i64 (st : Int)) (.int .i64 (ix : Int)) (.int .i64 (g : Int)) (.string tx)
          have HN : takeO l = some ⟨st, ix, g, tx⟩ := by
            rw [← HP.out]
            exact some_of (by rw [HP.out]; exact HMB.out) (by rw [HP.out]; exact of_decide_eq_true HEQ.out.symm)
          refine bodyPost_ret (v := .tuple #[shV ⟨st, ix, g, tx⟩, .int .i64 0]) (by simp [results, Tryd.results8, go_sem, shV, t0, t1, t2, t3]) rfl ⟨by rw [HN]; rfl, ?_⟩
          exact below_put4 HB7.out (Nat.le_refl _) (.int .i64 (st : Int)) (.int .i64 (ix : Int)) (.int .i64 (g : Int)) (.string tx)
end Go.Proofs.YtiminahobifomaaDoor
