/- silolaw12.taken, wakes. -/
import Derived.Test.YtiminahobifomaaDoorShN
import Derived.Test.YtiminahobifomaaDoorShO
namespace Go.Proofs.YtiminahobifomaaDoor
open Go.ChangeShapes Go.WideShapes Go.ChangeAt Go.RowKit Go.Joins Go.Shelf
set_option linter.unusedVariables false
set_option linter.unusedSimpArgs false

theorem takeV_agg (o : Option Sh) : ∃ (a b d : Int) (tx : ByteArray), takeV o = .agg #[.int .i64 a, .int .i64 b, .int .i64 d, .string tx] := by
  cases o with
  | none => exact ⟨0, 0, 0, ⟨#[]⟩, rfl⟩
  | some s => exact ⟨s.st, s.ix, s.g, s.t, rfl⟩
theorem takeN_or (o : Option Sh) : (o.isSome = true ∧ takeN o = 0) ∨ (o.isSome = false ∧ takeN o = 7) := by
  cases o with
  | none => exact .inr ⟨rfl, rfl⟩
  | some s => exact .inl ⟨rfl, rfl⟩

set_option maxRecDepth 100000 in
set_option maxHeartbeats 4000000 in
theorem taken_any (v : Value) (l : List ByteArray) (st ix g : Int) (t : ByteArray) (w : World) (h : Strs6 w v l) (hl : l.length ≤ 6000) (hs : (joinB l).length ≤ 10000000) :
    Calls Tryd.prog 15 #[v, .agg #[.int .i64 st, .int .i64 ix, .int .i64 g, .string t]] w fun e w' => e = .returned (.bool true) ∧ Below w.heap.size w w' := by
  obtain ⟨A, c, rfl⟩ := h.shape
  obtain ⟨hbe, b0, b1, b2, b3⟩ := box4_facts w (.int .i64 st) (.int .i64 ix) (.int .i64 g) (.string t) 28
  have hlt : w.heap.size < (w.alloc (.cells #[.int .i64 st, .int .i64 ix, .int .i64 g, .string t] 28)).heap.size := by simp
  have HX : Hid (∀ W', Below (w.alloc (.cells #[.int .i64 st, .int .i64 ix, .int .i64 g, .string t] 28)).heap.size (w.alloc (.cells #[.int .i64 st, .int .i64 ix, .int .i64 g, .string t] 28)) W' → W'.cell? ⟨w.heap.size, 0, none⟩ = some (.int .i64 st) ∧ W'.cell? ⟨w.heap.size, 1, none⟩ = some (.int .i64 ix) ∧ W'.cell? ⟨w.heap.size, 2, none⟩ = some (.int .i64 g) ∧ W'.cell? ⟨w.heap.size, 3, none⟩ = some (.string t)) := fun W' hW =>
    ⟨(hW.cell (p := ⟨w.heap.size, 0, none⟩) hlt).trans b0, (hW.cell (p := ⟨w.heap.size, 1, none⟩) hlt).trans b1, (hW.cell (p := ⟨w.heap.size, 2, none⟩) hlt).trans b2, (hW.cell (p := ⟨w.heap.size, 3, none⟩) hlt).trans b3⟩
  have HB0 := Lib.hid hbe
  have HL0 := Lib.hid (h.below hbe)
  have HJ := Lib.hid hs
  clear hbe b0 b1 b2 b3 hlt h hs
  obtain ⟨o, ho⟩ : ∃ o, o = takeO l := ⟨_, rfl⟩
  obtain ⟨a, b, d, tx, hV⟩ := takeV_agg o
  obtain ⟨ev, hev⟩ : ∃ x, x = takeN o := ⟨_, rfl⟩
  obtain ⟨ok, hok⟩ : ∃ x, x = o.isSome := ⟨_, rfl⟩
  have HOR : Hid ((ok = true ∧ ev = 0) ∨ (ok = false ∧ ev = 7)) := by rw [hev, hok]; exact takeN_or o
  have HTK : Hid (∀ W v, OwnS W v l → Calls Tryd.prog 8 #[v] W fun e w' => e = .returned (.tuple #[.agg #[.int .i64 a, .int .i64 b, .int .i64 d, .string tx], .int .i64 ev]) ∧ Below W.heap.size W w') := fun W v hW => by
    have q := take12_any v l W hW (by omega)
    rw [← ho, hV, ← hev] at q
    exact q
  have HUN : Hid (∀ W v, Strs6 W v l → Calls Tryd.prog 32 #[v] W fun e w' => e = .returned (.tuple #[.agg #[.int .i64 a, .int .i64 b, .int .i64 d, .string tx], .bool ok]) ∧ Below W.heap.size W w') := fun W v hW => by
    have q := unlay_any v l W hW (by omega)
    rw [← ho, hV, ← hok] at q
    exact q
  clear ho hV hev hok
  go_enter Tryd.func15, Tryd.ntmps15
  go_wp2_with fail
  generalize w.alloc (.cells #[.int .i64 st, .int .i64 ix, .int .i64 g, .string t] 28) = W0 at *
  refine (copyStrs6_any (.slice A l.length c) l W0 HL0.out hl).mono ?_
  rintro e w1 ⟨r, rfl, hown, hb1⟩
  obtain ⟨Ar, cr, rfl⟩ := own_shape hown
  have HI1 : Hid (OwnS w1 (.slice Ar l.length cr) l) := ⟨_, hown⟩
  have HL1 := Lib.hid (HL0.out.below hb1)
  have HC1 := Lib.hid hb1
  clear hb1 hown
  go_wp2_with fail
  refine (HTK.out _ _ HI1.out).mono ?_
  rintro e w2 ⟨rfl, hb2⟩
  have hbz := (Below.refl w2.heap.size w2).alloc (Nat.le_refl _) (.cells #[.int .i64 a, .int .i64 b, .int .i64 d, .string tx] 28)
  have hb2z := hb2.trans (hbz.mono hb2.size)
  have HI2 := Lib.hid (HI1.out.below hb2z)
  have HL2 := Lib.hid (HL1.out.below hb2z)
  have HC2 := Lib.hid (HC1.out.trans (hb2z.mono HC1.out.size))
  have HX6 := Lib.hid (Cell4.new w2 (.int .i64 a) (.int .i64 b) (.int .i64 d) (.string tx) 28)
  clear hb2 hbz hb2z HTK HI1 HL1 HC1
  go_upto_region 3 with fail
  generalize w2.alloc (.cells #[.int .i64 a, .int .i64 b, .int .i64 d, .string tx] 28) = w3 at *
  generalize w2.heap.size = b6 at *
  go_wp2_with fail
  refine (HUN.out _ _ HL2.out).mono ?_
  rintro e w4 ⟨rfl, hb4⟩
  have hbz := (Below.refl w4.heap.size w4).alloc (Nat.le_refl _) (.cells #[.int .i64 a, .int .i64 b, .int .i64 d, .string tx] 28)
  have hb4z := hb4.trans (hbz.mono hb4.size)
  have HI3 := Lib.hid (HI2.out.below hb4z)
  have HL3 := Lib.hid (HL2.out.below hb4z)
  have HC3 := Lib.hid (HC2.out.trans (hb4z.mono HC2.out.size))
  have HX8 := Lib.hid (Cell4.new w4 (.int .i64 a) (.int .i64 b) (.int .i64 d) (.string tx) 28)
  have HX6 := Lib.hid (HX6.out.below hb4z)
  clear hb4 hbz hb4z HUN HI2 HL2 HC2
  go_upto_region 4 with fail
  generalize w4.alloc (.cells #[.int .i64 a, .int .i64 b, .int .i64 d, .string tx] 28) = w8 at *
  generalize w4.heap.size = b8 at *
  go_wp2_with fail
  go_loopw [10, 11, 12, 13] (fun kv _ _ _ wr => ∃ k : Nat, kv = .int .i64 (k : Int) ∧ k ≤ 4 ∧ Hid (Below w8.heap.size w8 wr)) (fun k _ _ _ _ => 4 - (intOf k).toNat)
  case atStart => exact ⟨0, rfl, by omega, Below.refl _ _⟩
  case round =>
    obtain ⟨k, rfl, hk, HWR⟩ := hrel
    have HIr := Lib.hid (HI3.out.below HWR.out)
    have HLr := Lib.hid (HL3.out.below HWR.out)
    have HCr := Lib.hid (HC3.out.trans (HWR.out.mono HC3.out.size))
    have HXr : Hid (∀ W', Below wr.heap.size wr W' → W'.cell? ⟨w.heap.size, 0, none⟩ = some (.int .i64 st) ∧ W'.cell? ⟨w.heap.size, 1, none⟩ = some (.int .i64 ix) ∧ W'.cell? ⟨w.heap.size, 2, none⟩ = some (.int .i64 g) ∧ W'.cell? ⟨w.heap.size, 3, none⟩ = some (.string t)) := fun W' hW => HX.out W' (HCr.out.trans (hW.mono HCr.out.size))
    have hk5 : k = 0 ∨ k = 1 ∨ k = 2 ∨ k = 3 ∨ k = 4 := by omega
    rcases hk5 with rfl | rfl | rfl | rfl | rfl
    · clear hk
      have d4 : decide ((((0 : Nat) : Int)) < 4) = true := by decide
      go_upto_region 7 with fail
      go_cut [11, 12, 13] from 30 to 35 (fun av gv cv wx => av = .int .i64 st ∧ gv = .int .i64 g ∧ cv = .int .i64 ix ∧ Hid (Below wr.heap.size wr wx))
      case first =>
        refine wp_region_held (S := fun W' => Below wr.heap.size wr W') (by kernel_rfl) ?_
        change wpAnyH _ _ _ _ _ 9 _ _ wr.drew
        have hcum := (Below.refl wr.heap.size wr).drew
        generalize wr.drew = V0 at *
        refine wpAnyH_take (i := 0) (oi := { dst := some 30, op := Op.fieldAddr 28 (Operand.tmp 3) 0, type := 0, pos := "law.go:44", after := #[], guard := none }) (v := ?_) rfl (by kernel_rfl) (by kernel_rfl) (by kernel_rfl) (fun _ _ _ h => h) (Or.inl ⟨by rfl, fun W' hW' => ?_⟩) hcum ?_
        rotate_left 1
        · go_simp
          try rfl
        try simp only [Act.put, List.setIfInBounds_toArray, List.set_cons_zero, List.set_cons_succ]
        refine wpAnyH_take (i := 1) (oi := { dst := some 31, op := Op.load 3 (Operand.tmp 30), type := 3, pos := "law.go:44", after := #[{ on := 0, ground := Ground.data }], guard := none }) (v := ?_) rfl (by kernel_rfl) (by kernel_rfl) (by kernel_rfl) (fun _ _ _ h => h) (Or.inl ⟨by rfl, fun W' hW' => ?_⟩) hcum ?_
        rotate_left 1
        · (obtain ⟨x0, x1, x2, x3⟩ := HXr.out _ hW'; go_simp)
          try rfl
        try simp only [Act.put, List.setIfInBounds_toArray, List.set_cons_zero, List.set_cons_succ]
        refine wpAnyH_take (i := 2) (oi := { dst := some 32, op := Op.fieldAddr 28 (Operand.tmp 3) 2, type := 0, pos := "law.go:44", after := #[{ on := 6, ground := Ground.gcOnly Departure.lateStores }], guard := none }) (v := ?_) rfl (by kernel_rfl) (by kernel_rfl) (by kernel_rfl) (fun _ _ _ h => h) (Or.inl ⟨by rfl, fun W' hW' => ?_⟩) hcum ?_
        rotate_left 1
        · go_simp
          try rfl
        try simp only [Act.put, List.setIfInBounds_toArray, List.set_cons_zero, List.set_cons_succ]
        refine wpAnyH_take (i := 3) (oi := { dst := some 33, op := Op.load 3 (Operand.tmp 32), type := 3, pos := "law.go:44", after := #[{ on := 2, ground := Ground.data }, { on := 6, ground := Ground.gcOnly Departure.lateStores }], guard := none }) (v := ?_) rfl (by kernel_rfl) (by kernel_rfl) (by kernel_rfl) (fun _ _ _ h => h) (Or.inl ⟨by rfl, fun W' hW' => ?_⟩) hcum ?_
        rotate_left 1
        · (obtain ⟨x0, x1, x2, x3⟩ := HXr.out _ hW'; go_simp)
          try rfl
        try simp only [Act.put, List.setIfInBounds_toArray, List.set_cons_zero, List.set_cons_succ]
        refine wpAnyH_take (i := 4) (oi := { dst := some 34, op := Op.fieldAddr 28 (Operand.tmp 3) 1, type := 0, pos := "law.go:44", after := #[{ on := 7, ground := Ground.gcOnly Departure.lateStores }], guard := none }) (v := ?_) rfl (by kernel_rfl) (by kernel_rfl) (by kernel_rfl) (fun _ _ _ h => h) (Or.inl ⟨by rfl, fun W' hW' => ?_⟩) hcum ?_
        rotate_left 1
        · go_simp
          try rfl
        try simp only [Act.put, List.setIfInBounds_toArray, List.set_cons_zero, List.set_cons_succ]
        refine wpAnyH_take (i := 5) (oi := { dst := some 35, op := Op.load 3 (Operand.tmp 34), type := 3, pos := "law.go:44", after := #[{ on := 4, ground := Ground.data }, { on := 7, ground := Ground.gcOnly Departure.lateStores }], guard := none }) (v := ?_) rfl (by kernel_rfl) (by kernel_rfl) (by kernel_rfl) (fun _ _ _ h => h) (Or.inl ⟨by rfl, fun W' hW' => ?_⟩) hcum ?_
        rotate_left 1
        · (obtain ⟨x0, x1, x2, x3⟩ := HXr.out _ hW'; go_simp)
          try rfl
        try simp only [Act.put, List.setIfInBounds_toArray, List.set_cons_zero, List.set_cons_succ]
        refine wpAnyH_take (i := 6) (oi := { dst := some 11, op := Op.assign (Operand.tmp 31), type := 3, pos := "law.go:44", after := #[{ on := 1, ground := Ground.data }, { on := 0, ground := Ground.phase }, { on := 1, ground := Ground.phase }, { on := 2, ground := Ground.textOnly Departure.lateStores }, { on := 3, ground := Ground.textOnly Departure.lateStores }, { on := 4, ground := Ground.textOnly Departure.lateStores }, { on := 5, ground := Ground.textOnly Departure.lateStores }], guard := none }) (v := ?_) rfl (by kernel_rfl) (by kernel_rfl) (by kernel_rfl) (fun _ _ _ h => h) (Or.inl ⟨by rfl, fun W' hW' => ?_⟩) hcum ?_
        rotate_left 1
        · go_simp
          try rfl
        try simp only [Act.put, List.setIfInBounds_toArray, List.set_cons_zero, List.set_cons_succ]
        refine wpAnyH_take (i := 7) (oi := { dst := some 12, op := Op.assign (Operand.tmp 33), type := 3, pos := "law.go:44", after := #[{ on := 3, ground := Ground.data }, { on := 6, ground := Ground.chain }, { on := 0, ground := Ground.phase }, { on := 1, ground := Ground.phase }, { on := 2, ground := Ground.phase }, { on := 3, ground := Ground.phase }, { on := 4, ground := Ground.textOnly Departure.lateStores }, { on := 5, ground := Ground.textOnly Departure.lateStores }, { on := 6, ground := Ground.phase }], guard := none }) (v := ?_) rfl (by kernel_rfl) (by kernel_rfl) (by kernel_rfl) (fun _ _ _ h => h) (Or.inl ⟨by rfl, fun W' hW' => ?_⟩) hcum ?_
        rotate_left 1
        · go_simp
          try rfl
        try simp only [Act.put, List.setIfInBounds_toArray, List.set_cons_zero, List.set_cons_succ]
        refine wpAnyH_take (i := 8) (oi := { dst := some 13, op := Op.assign (Operand.tmp 35), type := 3, pos := "law.go:44", after := #[{ on := 5, ground := Ground.data }, { on := 7, ground := Ground.chain }, { on := 0, ground := Ground.phase }, { on := 1, ground := Ground.phase }, { on := 2, ground := Ground.phase }, { on := 3, ground := Ground.phase }, { on := 4, ground := Ground.phase }, { on := 5, ground := Ground.phase }, { on := 6, ground := Ground.phase }, { on := 7, ground := Ground.phase }], guard := none }) (v := ?_) rfl (by kernel_rfl) (by kernel_rfl) (by kernel_rfl) (fun _ _ _ h => h) (Or.inl ⟨by rfl, fun W' hW' => ?_⟩) hcum ?_
        rotate_left 1
        · go_simp
          try rfl
        try simp only [Act.put, List.setIfInBounds_toArray, List.set_cons_zero, List.set_cons_succ]
        refine wpAnyH_done (by kernel_rfl) ?_ _
        go_wp2_with fail
        go_meet
        exact ⟨rfl, rfl, rfl, Lib.hid hcum⟩
      case rest =>
        obtain ⟨rfl, rfl, rfl, HC⟩ := hcut
        obtain ⟨w5, rfl⟩ : ∃ x : World, x = wc := ⟨_, rfl⟩
        have HI5 := Lib.hid (HIr.out.below HC.out)
        have HL5 := Lib.hid (HLr.out.below HC.out)
        have HB5 := Lib.hid (HWR.out.trans (HC.out.mono HWR.out.size))
        clear d4
        go_wp2_with fail
        refine (class12_any (.slice Ar l.length cr) l _ _ _ w5 HI5.out (by omega) HJ.out).mono ?_
        rintro e w6 ⟨rfl, hb6⟩
        have HL6 := Lib.hid (HL5.out.below hb6)
        have HB6 := Lib.hid (HB5.out.trans (hb6.mono HB5.out.size))
        clear hb6
        go_wp2_with fail
        refine (refClass_any (.slice A l.length c) l _ _ _ w6 HL6.out (by omega) HJ.out).mono ?_
        rintro e w7 ⟨rfl, hb7⟩
        have HB7 := Lib.hid (HB6.out.trans (hb7.mono HB6.out.size))
        clear hb7
        go_wp2_with fail
        go_roundw
        case rel => exact ⟨0 + 1, by go_num, by omega, HB7⟩
        case measure => simp [intOf]
    · clear hk
      have d4 : decide ((((1 : Nat) : Int)) < 4) = true := by decide
      go_upto_region 7 with fail
      go_cut [11, 12, 13] from 30 to 35 (fun av gv cv wx => av = .int .i64 st ∧ gv = .int .i64 g ∧ cv = .int .i64 ix ∧ Hid (Below wr.heap.size wr wx))
      case first =>
        refine wp_region_held (S := fun W' => Below wr.heap.size wr W') (by kernel_rfl) ?_
        change wpAnyH _ _ _ _ _ 9 _ _ wr.drew
        have hcum := (Below.refl wr.heap.size wr).drew
        generalize wr.drew = V0 at *
        refine wpAnyH_take (i := 0) (oi := { dst := some 30, op := Op.fieldAddr 28 (Operand.tmp 3) 0, type := 0, pos := "law.go:44", after := #[], guard := none }) (v := ?_) rfl (by kernel_rfl) (by kernel_rfl) (by kernel_rfl) (fun _ _ _ h => h) (Or.inl ⟨by rfl, fun W' hW' => ?_⟩) hcum ?_
        rotate_left 1
        · go_simp
          try rfl
        try simp only [Act.put, List.setIfInBounds_toArray, List.set_cons_zero, List.set_cons_succ]
        refine wpAnyH_take (i := 1) (oi := { dst := some 31, op := Op.load 3 (Operand.tmp 30), type := 3, pos := "law.go:44", after := #[{ on := 0, ground := Ground.data }], guard := none }) (v := ?_) rfl (by kernel_rfl) (by kernel_rfl) (by kernel_rfl) (fun _ _ _ h => h) (Or.inl ⟨by rfl, fun W' hW' => ?_⟩) hcum ?_
        rotate_left 1
        · (obtain ⟨x0, x1, x2, x3⟩ := HXr.out _ hW'; go_simp)
          try rfl
        try simp only [Act.put, List.setIfInBounds_toArray, List.set_cons_zero, List.set_cons_succ]
        refine wpAnyH_take (i := 2) (oi := { dst := some 32, op := Op.fieldAddr 28 (Operand.tmp 3) 2, type := 0, pos := "law.go:44", after := #[{ on := 6, ground := Ground.gcOnly Departure.lateStores }], guard := none }) (v := ?_) rfl (by kernel_rfl) (by kernel_rfl) (by kernel_rfl) (fun _ _ _ h => h) (Or.inl ⟨by rfl, fun W' hW' => ?_⟩) hcum ?_
        rotate_left 1
        · go_simp
          try rfl
        try simp only [Act.put, List.setIfInBounds_toArray, List.set_cons_zero, List.set_cons_succ]
        refine wpAnyH_take (i := 3) (oi := { dst := some 33, op := Op.load 3 (Operand.tmp 32), type := 3, pos := "law.go:44", after := #[{ on := 2, ground := Ground.data }, { on := 6, ground := Ground.gcOnly Departure.lateStores }], guard := none }) (v := ?_) rfl (by kernel_rfl) (by kernel_rfl) (by kernel_rfl) (fun _ _ _ h => h) (Or.inl ⟨by rfl, fun W' hW' => ?_⟩) hcum ?_
        rotate_left 1
        · (obtain ⟨x0, x1, x2, x3⟩ := HXr.out _ hW'; go_simp)
          try rfl
        try simp only [Act.put, List.setIfInBounds_toArray, List.set_cons_zero, List.set_cons_succ]
        refine wpAnyH_take (i := 4) (oi := { dst := some 34, op := Op.fieldAddr 28 (Operand.tmp 3) 1, type := 0, pos := "law.go:44", after := #[{ on := 7, ground := Ground.gcOnly Departure.lateStores }], guard := none }) (v := ?_) rfl (by kernel_rfl) (by kernel_rfl) (by kernel_rfl) (fun _ _ _ h => h) (Or.inl ⟨by rfl, fun W' hW' => ?_⟩) hcum ?_
        rotate_left 1
        · go_simp
          try rfl
        try simp only [Act.put, List.setIfInBounds_toArray, List.set_cons_zero, List.set_cons_succ]
        refine wpAnyH_take (i := 5) (oi := { dst := some 35, op := Op.load 3 (Operand.tmp 34), type := 3, pos := "law.go:44", after := #[{ on := 4, ground := Ground.data }, { on := 7, ground := Ground.gcOnly Departure.lateStores }], guard := none }) (v := ?_) rfl (by kernel_rfl) (by kernel_rfl) (by kernel_rfl) (fun _ _ _ h => h) (Or.inl ⟨by rfl, fun W' hW' => ?_⟩) hcum ?_
        rotate_left 1
        · (obtain ⟨x0, x1, x2, x3⟩ := HXr.out _ hW'; go_simp)
          try rfl
        try simp only [Act.put, List.setIfInBounds_toArray, List.set_cons_zero, List.set_cons_succ]
        refine wpAnyH_take (i := 6) (oi := { dst := some 11, op := Op.assign (Operand.tmp 31), type := 3, pos := "law.go:44", after := #[{ on := 1, ground := Ground.data }, { on := 0, ground := Ground.phase }, { on := 1, ground := Ground.phase }, { on := 2, ground := Ground.textOnly Departure.lateStores }, { on := 3, ground := Ground.textOnly Departure.lateStores }, { on := 4, ground := Ground.textOnly Departure.lateStores }, { on := 5, ground := Ground.textOnly Departure.lateStores }], guard := none }) (v := ?_) rfl (by kernel_rfl) (by kernel_rfl) (by kernel_rfl) (fun _ _ _ h => h) (Or.inl ⟨by rfl, fun W' hW' => ?_⟩) hcum ?_
        rotate_left 1
        · go_simp
          try rfl
        try simp only [Act.put, List.setIfInBounds_toArray, List.set_cons_zero, List.set_cons_succ]
        refine wpAnyH_take (i := 7) (oi := { dst := some 12, op := Op.assign (Operand.tmp 33), type := 3, pos := "law.go:44", after := #[{ on := 3, ground := Ground.data }, { on := 6, ground := Ground.chain }, { on := 0, ground := Ground.phase }, { on := 1, ground := Ground.phase }, { on := 2, ground := Ground.phase }, { on := 3, ground := Ground.phase }, { on := 4, ground := Ground.textOnly Departure.lateStores }, { on := 5, ground := Ground.textOnly Departure.lateStores }, { on := 6, ground := Ground.phase }], guard := none }) (v := ?_) rfl (by kernel_rfl) (by kernel_rfl) (by kernel_rfl) (fun _ _ _ h => h) (Or.inl ⟨by rfl, fun W' hW' => ?_⟩) hcum ?_
        rotate_left 1
        · go_simp
          try rfl
        try simp only [Act.put, List.setIfInBounds_toArray, List.set_cons_zero, List.set_cons_succ]
        refine wpAnyH_take (i := 8) (oi := { dst := some 13, op := Op.assign (Operand.tmp 35), type := 3, pos := "law.go:44", after := #[{ on := 5, ground := Ground.data }, { on := 7, ground := Ground.chain }, { on := 0, ground := Ground.phase }, { on := 1, ground := Ground.phase }, { on := 2, ground := Ground.phase }, { on := 3, ground := Ground.phase }, { on := 4, ground := Ground.phase }, { on := 5, ground := Ground.phase }, { on := 6, ground := Ground.phase }, { on := 7, ground := Ground.phase }], guard := none }) (v := ?_) rfl (by kernel_rfl) (by kernel_rfl) (by kernel_rfl) (fun _ _ _ h => h) (Or.inl ⟨by rfl, fun W' hW' => ?_⟩) hcum ?_
        rotate_left 1
        · go_simp
          try rfl
        try simp only [Act.put, List.setIfInBounds_toArray, List.set_cons_zero, List.set_cons_succ]
        refine wpAnyH_done (by kernel_rfl) ?_ _
        go_wp2_with fail
        go_meet
        exact ⟨rfl, rfl, rfl, Lib.hid hcum⟩
      case rest =>
        obtain ⟨rfl, rfl, rfl, HC⟩ := hcut
        obtain ⟨w5, rfl⟩ : ∃ x : World, x = wc := ⟨_, rfl⟩
        have HI5 := Lib.hid (HIr.out.below HC.out)
        have HL5 := Lib.hid (HLr.out.below HC.out)
        have HB5 := Lib.hid (HWR.out.trans (HC.out.mono HWR.out.size))
        clear d4
        go_wp2_with fail
        refine (class12_any (.slice Ar l.length cr) l _ _ _ w5 HI5.out (by omega) HJ.out).mono ?_
        rintro e w6 ⟨rfl, hb6⟩
        have HL6 := Lib.hid (HL5.out.below hb6)
        have HB6 := Lib.hid (HB5.out.trans (hb6.mono HB5.out.size))
        clear hb6
        go_wp2_with fail
        refine (refClass_any (.slice A l.length c) l _ _ _ w6 HL6.out (by omega) HJ.out).mono ?_
        rintro e w7 ⟨rfl, hb7⟩
        have HB7 := Lib.hid (HB6.out.trans (hb7.mono HB6.out.size))
        clear hb7
        go_wp2_with fail
        go_roundw
        case rel => exact ⟨1 + 1, by go_num, by omega, HB7⟩
        case measure => simp [intOf]
    · clear hk
      have d4 : decide ((((2 : Nat) : Int)) < 4) = true := by decide
      go_upto_region 7 with fail
      go_cut [11, 12, 13] from 30 to 35 (fun av gv cv wx => av = .int .i64 st ∧ gv = .int .i64 g ∧ cv = .int .i64 ix ∧ Hid (Below wr.heap.size wr wx))
      case first =>
        refine wp_region_held (S := fun W' => Below wr.heap.size wr W') (by kernel_rfl) ?_
        change wpAnyH _ _ _ _ _ 9 _ _ wr.drew
        have hcum := (Below.refl wr.heap.size wr).drew
        generalize wr.drew = V0 at *
        refine wpAnyH_take (i := 0) (oi := { dst := some 30, op := Op.fieldAddr 28 (Operand.tmp 3) 0, type := 0, pos := "law.go:44", after := #[], guard := none }) (v := ?_) rfl (by kernel_rfl) (by kernel_rfl) (by kernel_rfl) (fun _ _ _ h => h) (Or.inl ⟨by rfl, fun W' hW' => ?_⟩) hcum ?_
        rotate_left 1
        · go_simp
          try rfl
        try simp only [Act.put, List.setIfInBounds_toArray, List.set_cons_zero, List.set_cons_succ]
        refine wpAnyH_take (i := 1) (oi := { dst := some 31, op := Op.load 3 (Operand.tmp 30), type := 3, pos := "law.go:44", after := #[{ on := 0, ground := Ground.data }], guard := none }) (v := ?_) rfl (by kernel_rfl) (by kernel_rfl) (by kernel_rfl) (fun _ _ _ h => h) (Or.inl ⟨by rfl, fun W' hW' => ?_⟩) hcum ?_
        rotate_left 1
        · (obtain ⟨x0, x1, x2, x3⟩ := HXr.out _ hW'; go_simp)
          try rfl
        try simp only [Act.put, List.setIfInBounds_toArray, List.set_cons_zero, List.set_cons_succ]
        refine wpAnyH_take (i := 2) (oi := { dst := some 32, op := Op.fieldAddr 28 (Operand.tmp 3) 2, type := 0, pos := "law.go:44", after := #[{ on := 6, ground := Ground.gcOnly Departure.lateStores }], guard := none }) (v := ?_) rfl (by kernel_rfl) (by kernel_rfl) (by kernel_rfl) (fun _ _ _ h => h) (Or.inl ⟨by rfl, fun W' hW' => ?_⟩) hcum ?_
        rotate_left 1
        · go_simp
          try rfl
        try simp only [Act.put, List.setIfInBounds_toArray, List.set_cons_zero, List.set_cons_succ]
        refine wpAnyH_take (i := 3) (oi := { dst := some 33, op := Op.load 3 (Operand.tmp 32), type := 3, pos := "law.go:44", after := #[{ on := 2, ground := Ground.data }, { on := 6, ground := Ground.gcOnly Departure.lateStores }], guard := none }) (v := ?_) rfl (by kernel_rfl) (by kernel_rfl) (by kernel_rfl) (fun _ _ _ h => h) (Or.inl ⟨by rfl, fun W' hW' => ?_⟩) hcum ?_
        rotate_left 1
        · (obtain ⟨x0, x1, x2, x3⟩ := HXr.out _ hW'; go_simp)
          try rfl
        try simp only [Act.put, List.setIfInBounds_toArray, List.set_cons_zero, List.set_cons_succ]
        refine wpAnyH_take (i := 4) (oi := { dst := some 34, op := Op.fieldAddr 28 (Operand.tmp 3) 1, type := 0, pos := "law.go:44", after := #[{ on := 7, ground := Ground.gcOnly Departure.lateStores }], guard := none }) (v := ?_) rfl (by kernel_rfl) (by kernel_rfl) (by kernel_rfl) (fun _ _ _ h => h) (Or.inl ⟨by rfl, fun W' hW' => ?_⟩) hcum ?_
        rotate_left 1
        · go_simp
          try rfl
        try simp only [Act.put, List.setIfInBounds_toArray, List.set_cons_zero, List.set_cons_succ]
        refine wpAnyH_take (i := 5) (oi := { dst := some 35, op := Op.load 3 (Operand.tmp 34), type := 3, pos := "law.go:44", after := #[{ on := 4, ground := Ground.data }, { on := 7, ground := Ground.gcOnly Departure.lateStores }], guard := none }) (v := ?_) rfl (by kernel_rfl) (by kernel_rfl) (by kernel_rfl) (fun _ _ _ h => h) (Or.inl ⟨by rfl, fun W' hW' => ?_⟩) hcum ?_
        rotate_left 1
        · (obtain ⟨x0, x1, x2, x3⟩ := HXr.out _ hW'; go_simp)
          try rfl
        try simp only [Act.put, List.setIfInBounds_toArray, List.set_cons_zero, List.set_cons_succ]
        refine wpAnyH_take (i := 6) (oi := { dst := some 11, op := Op.assign (Operand.tmp 31), type := 3, pos := "law.go:44", after := #[{ on := 1, ground := Ground.data }, { on := 0, ground := Ground.phase }, { on := 1, ground := Ground.phase }, { on := 2, ground := Ground.textOnly Departure.lateStores }, { on := 3, ground := Ground.textOnly Departure.lateStores }, { on := 4, ground := Ground.textOnly Departure.lateStores }, { on := 5, ground := Ground.textOnly Departure.lateStores }], guard := none }) (v := ?_) rfl (by kernel_rfl) (by kernel_rfl) (by kernel_rfl) (fun _ _ _ h => h) (Or.inl ⟨by rfl, fun W' hW' => ?_⟩) hcum ?_
        rotate_left 1
        · go_simp
          try rfl
        try simp only [Act.put, List.setIfInBounds_toArray, List.set_cons_zero, List.set_cons_succ]
        refine wpAnyH_take (i := 7) (oi := { dst := some 12, op := Op.assign (Operand.tmp 33), type := 3, pos := "law.go:44", after := #[{ on := 3, ground := Ground.data }, { on := 6, ground := Ground.chain }, { on := 0, ground := Ground.phase }, { on := 1, ground := Ground.phase }, { on := 2, ground := Ground.phase }, { on := 3, ground := Ground.phase }, { on := 4, ground := Ground.textOnly Departure.lateStores }, { on := 5, ground := Ground.textOnly Departure.lateStores }, { on := 6, ground := Ground.phase }], guard := none }) (v := ?_) rfl (by kernel_rfl) (by kernel_rfl) (by kernel_rfl) (fun _ _ _ h => h) (Or.inl ⟨by rfl, fun W' hW' => ?_⟩) hcum ?_
        rotate_left 1
        · go_simp
          try rfl
        try simp only [Act.put, List.setIfInBounds_toArray, List.set_cons_zero, List.set_cons_succ]
        refine wpAnyH_take (i := 8) (oi := { dst := some 13, op := Op.assign (Operand.tmp 35), type := 3, pos := "law.go:44", after := #[{ on := 5, ground := Ground.data }, { on := 7, ground := Ground.chain }, { on := 0, ground := Ground.phase }, { on := 1, ground := Ground.phase }, { on := 2, ground := Ground.phase }, { on := 3, ground := Ground.phase }, { on := 4, ground := Ground.phase }, { on := 5, ground := Ground.phase }, { on := 6, ground := Ground.phase }, { on := 7, ground := Ground.phase }], guard := none }) (v := ?_) rfl (by kernel_rfl) (by kernel_rfl) (by kernel_rfl) (fun _ _ _ h => h) (Or.inl ⟨by rfl, fun W' hW' => ?_⟩) hcum ?_
        rotate_left 1
        · go_simp
          try rfl
        try simp only [Act.put, List.setIfInBounds_toArray, List.set_cons_zero, List.set_cons_succ]
        refine wpAnyH_done (by kernel_rfl) ?_ _
        go_wp2_with fail
        go_meet
        exact ⟨rfl, rfl, rfl, Lib.hid hcum⟩
      case rest =>
        obtain ⟨rfl, rfl, rfl, HC⟩ := hcut
        obtain ⟨w5, rfl⟩ : ∃ x : World, x = wc := ⟨_, rfl⟩
        have HI5 := Lib.hid (HIr.out.below HC.out)
        have HL5 := Lib.hid (HLr.out.below HC.out)
        have HB5 := Lib.hid (HWR.out.trans (HC.out.mono HWR.out.size))
        clear d4
        go_wp2_with fail
        refine (class12_any (.slice Ar l.length cr) l _ _ _ w5 HI5.out (by omega) HJ.out).mono ?_
        rintro e w6 ⟨rfl, hb6⟩
        have HL6 := Lib.hid (HL5.out.below hb6)
        have HB6 := Lib.hid (HB5.out.trans (hb6.mono HB5.out.size))
        clear hb6
        go_wp2_with fail
        refine (refClass_any (.slice A l.length c) l _ _ _ w6 HL6.out (by omega) HJ.out).mono ?_
        rintro e w7 ⟨rfl, hb7⟩
        have HB7 := Lib.hid (HB6.out.trans (hb7.mono HB6.out.size))
        clear hb7
        go_wp2_with fail
        go_roundw
        case rel => exact ⟨2 + 1, by go_num, by omega, HB7⟩
        case measure => simp [intOf]
    · clear hk
      have d4 : decide ((((3 : Nat) : Int)) < 4) = true := by decide
      go_upto_region 7 with fail
      go_cut [11, 12, 13] from 30 to 35 (fun av gv cv wx => av = .int .i64 st ∧ gv = .int .i64 g ∧ cv = .int .i64 ix ∧ Hid (Below wr.heap.size wr wx))
      case first =>
        refine wp_region_held (S := fun W' => Below wr.heap.size wr W') (by kernel_rfl) ?_
        change wpAnyH _ _ _ _ _ 9 _ _ wr.drew
        have hcum := (Below.refl wr.heap.size wr).drew
        generalize wr.drew = V0 at *
        refine wpAnyH_take (i := 0) (oi := { dst := some 30, op := Op.fieldAddr 28 (Operand.tmp 3) 0, type := 0, pos := "law.go:44", after := #[], guard := none }) (v := ?_) rfl (by kernel_rfl) (by kernel_rfl) (by kernel_rfl) (fun _ _ _ h => h) (Or.inl ⟨by rfl, fun W' hW' => ?_⟩) hcum ?_
        rotate_left 1
        · go_simp
          try rfl
        try simp only [Act.put, List.setIfInBounds_toArray, List.set_cons_zero, List.set_cons_succ]
        refine wpAnyH_take (i := 1) (oi := { dst := some 31, op := Op.load 3 (Operand.tmp 30), type := 3, pos := "law.go:44", after := #[{ on := 0, ground := Ground.data }], guard := none }) (v := ?_) rfl (by kernel_rfl) (by kernel_rfl) (by kernel_rfl) (fun _ _ _ h => h) (Or.inl ⟨by rfl, fun W' hW' => ?_⟩) hcum ?_
        rotate_left 1
        · (obtain ⟨x0, x1, x2, x3⟩ := HXr.out _ hW'; go_simp)
          try rfl
        try simp only [Act.put, List.setIfInBounds_toArray, List.set_cons_zero, List.set_cons_succ]
        refine wpAnyH_take (i := 2) (oi := { dst := some 32, op := Op.fieldAddr 28 (Operand.tmp 3) 2, type := 0, pos := "law.go:44", after := #[{ on := 6, ground := Ground.gcOnly Departure.lateStores }], guard := none }) (v := ?_) rfl (by kernel_rfl) (by kernel_rfl) (by kernel_rfl) (fun _ _ _ h => h) (Or.inl ⟨by rfl, fun W' hW' => ?_⟩) hcum ?_
        rotate_left 1
        · go_simp
          try rfl
        try simp only [Act.put, List.setIfInBounds_toArray, List.set_cons_zero, List.set_cons_succ]
        refine wpAnyH_take (i := 3) (oi := { dst := some 33, op := Op.load 3 (Operand.tmp 32), type := 3, pos := "law.go:44", after := #[{ on := 2, ground := Ground.data }, { on := 6, ground := Ground.gcOnly Departure.lateStores }], guard := none }) (v := ?_) rfl (by kernel_rfl) (by kernel_rfl) (by kernel_rfl) (fun _ _ _ h => h) (Or.inl ⟨by rfl, fun W' hW' => ?_⟩) hcum ?_
        rotate_left 1
        · (obtain ⟨x0, x1, x2, x3⟩ := HXr.out _ hW'; go_simp)
          try rfl
        try simp only [Act.put, List.setIfInBounds_toArray, List.set_cons_zero, List.set_cons_succ]
        refine wpAnyH_take (i := 4) (oi := { dst := some 34, op := Op.fieldAddr 28 (Operand.tmp 3) 1, type := 0, pos := "law.go:44", after := #[{ on := 7, ground := Ground.gcOnly Departure.lateStores }], guard := none }) (v := ?_) rfl (by kernel_rfl) (by kernel_rfl) (by kernel_rfl) (fun _ _ _ h => h) (Or.inl ⟨by rfl, fun W' hW' => ?_⟩) hcum ?_
        rotate_left 1
        · go_simp
          try rfl
        try simp only [Act.put, List.setIfInBounds_toArray, List.set_cons_zero, List.set_cons_succ]
        refine wpAnyH_take (i := 5) (oi := { dst := some 35, op := Op.load 3 (Operand.tmp 34), type := 3, pos := "law.go:44", after := #[{ on := 4, ground := Ground.data }, { on := 7, ground := Ground.gcOnly Departure.lateStores }], guard := none }) (v := ?_) rfl (by kernel_rfl) (by kernel_rfl) (by kernel_rfl) (fun _ _ _ h => h) (Or.inl ⟨by rfl, fun W' hW' => ?_⟩) hcum ?_
        rotate_left 1
        · (obtain ⟨x0, x1, x2, x3⟩ := HXr.out _ hW'; go_simp)
          try rfl
        try simp only [Act.put, List.setIfInBounds_toArray, List.set_cons_zero, List.set_cons_succ]
        refine wpAnyH_take (i := 6) (oi := { dst := some 11, op := Op.assign (Operand.tmp 31), type := 3, pos := "law.go:44", after := #[{ on := 1, ground := Ground.data }, { on := 0, ground := Ground.phase }, { on := 1, ground := Ground.phase }, { on := 2, ground := Ground.textOnly Departure.lateStores }, { on := 3, ground := Ground.textOnly Departure.lateStores }, { on := 4, ground := Ground.textOnly Departure.lateStores }, { on := 5, ground := Ground.textOnly Departure.lateStores }], guard := none }) (v := ?_) rfl (by kernel_rfl) (by kernel_rfl) (by kernel_rfl) (fun _ _ _ h => h) (Or.inl ⟨by rfl, fun W' hW' => ?_⟩) hcum ?_
        rotate_left 1
        · go_simp
          try rfl
        try simp only [Act.put, List.setIfInBounds_toArray, List.set_cons_zero, List.set_cons_succ]
        refine wpAnyH_take (i := 7) (oi := { dst := some 12, op := Op.assign (Operand.tmp 33), type := 3, pos := "law.go:44", after := #[{ on := 3, ground := Ground.data }, { on := 6, ground := Ground.chain }, { on := 0, ground := Ground.phase }, { on := 1, ground := Ground.phase }, { on := 2, ground := Ground.phase }, { on := 3, ground := Ground.phase }, { on := 4, ground := Ground.textOnly Departure.lateStores }, { on := 5, ground := Ground.textOnly Departure.lateStores }, { on := 6, ground := Ground.phase }], guard := none }) (v := ?_) rfl (by kernel_rfl) (by kernel_rfl) (by kernel_rfl) (fun _ _ _ h => h) (Or.inl ⟨by rfl, fun W' hW' => ?_⟩) hcum ?_
        rotate_left 1
        · go_simp
          try rfl
        try simp only [Act.put, List.setIfInBounds_toArray, List.set_cons_zero, List.set_cons_succ]
        refine wpAnyH_take (i := 8) (oi := { dst := some 13, op := Op.assign (Operand.tmp 35), type := 3, pos := "law.go:44", after := #[{ on := 5, ground := Ground.data }, { on := 7, ground := Ground.chain }, { on := 0, ground := Ground.phase }, { on := 1, ground := Ground.phase }, { on := 2, ground := Ground.phase }, { on := 3, ground := Ground.phase }, { on := 4, ground := Ground.phase }, { on := 5, ground := Ground.phase }, { on := 6, ground := Ground.phase }, { on := 7, ground := Ground.phase }], guard := none }) (v := ?_) rfl (by kernel_rfl) (by kernel_rfl) (by kernel_rfl) (fun _ _ _ h => h) (Or.inl ⟨by rfl, fun W' hW' => ?_⟩) hcum ?_
        rotate_left 1
        · go_simp
          try rfl
        try simp only [Act.put, List.setIfInBounds_toArray, List.set_cons_zero, List.set_cons_succ]
        refine wpAnyH_done (by kernel_rfl) ?_ _
        go_wp2_with fail
        go_meet
        exact ⟨rfl, rfl, rfl, Lib.hid hcum⟩
      case rest =>
        obtain ⟨rfl, rfl, rfl, HC⟩ := hcut
        obtain ⟨w5, rfl⟩ : ∃ x : World, x = wc := ⟨_, rfl⟩
        have HI5 := Lib.hid (HIr.out.below HC.out)
        have HL5 := Lib.hid (HLr.out.below HC.out)
        have HB5 := Lib.hid (HWR.out.trans (HC.out.mono HWR.out.size))
        clear d4
        go_wp2_with fail
        refine (class12_any (.slice Ar l.length cr) l _ _ _ w5 HI5.out (by omega) HJ.out).mono ?_
        rintro e w6 ⟨rfl, hb6⟩
        have HL6 := Lib.hid (HL5.out.below hb6)
        have HB6 := Lib.hid (HB5.out.trans (hb6.mono HB5.out.size))
        clear hb6
        go_wp2_with fail
        refine (refClass_any (.slice A l.length c) l _ _ _ w6 HL6.out (by omega) HJ.out).mono ?_
        rintro e w7 ⟨rfl, hb7⟩
        have HB7 := Lib.hid (HB6.out.trans (hb7.mono HB6.out.size))
        clear hb7
        go_wp2_with fail
        go_roundw
        case rel => exact ⟨3 + 1, by go_num, by omega, HB7⟩
        case measure => simp [intOf]
    · clear hk
      have d4 : decide ((((4 : Nat) : Int)) < 4) = false := by decide
      obtain ⟨y0, y1, y2, y3, _, _, _, _⟩ := HX6.out.below HWR.out
      obtain ⟨z0, z1, z2, z3, _, _, _, _⟩ := HX8.out.below HWR.out
      have HEQ := Lib.hid (eqStrs6_dec (.slice Ar l.length cr) (.slice A l.length c) l l wr HIr.out.strs HLr.out (by omega) (by omega))
      have hdl : decide (l = l) = true := decide_eq_true rfl
      rw [hdl] at HEQ
      clear hdl
      have HBF := Lib.hid (HB0.out.trans (HCr.out.mono HB0.out.size))
      rcases HOR.out with ⟨rfl, rfl⟩ | ⟨rfl, rfl⟩
      · go_wp2_with (first | (go_at_call 7; refine (num12_any _ _).mono ?_; rintro e wn ⟨rfl, rfl⟩))
        refine HEQ.out.mono ?_
        rintro e w9 ⟨rfl, hb9⟩
        have HB9 := Lib.hid (HBF.out.trans (hb9.mono HBF.out.size))
        clear hb9
        go_wp2_with fail
        go_ret
        exact ⟨rfl, HB9.out⟩
      · go_wp2_with (first | (go_at_call 7; refine (num12_any _ _).mono ?_; rintro e wn ⟨rfl, rfl⟩))
        refine HEQ.out.mono ?_
        rintro e w9 ⟨rfl, hb9⟩
        have HB9 := Lib.hid (HBF.out.trans (hb9.mono HBF.out.size))
        clear hb9
        go_wp2_with fail
        go_ret
        exact ⟨rfl, HB9.out⟩
end Go.Proofs.YtiminahobifomaaDoor
