/- matrix.Pick, where it may, walked. -/
import Derived.Test.YtijcmdcjjcemfaaPkA13
import Derived.Test.YtijcmdcjjcemfaaPkA04
import Derived.Test.YtijcmdcjjcemfaaPkA05
import Derived.OrdersHeld
import Derived.Deep.AppendLies
import Derived.Test.YtijcmdcjjcemfaaPkA00
import Derived.WalkSpells
import Derived.WalkLawsBesides
import Derived.Handy
import Derived.Lib.Hide
import Derived.Test.YtijcmdcjjcemfaaPkA02
namespace Go.Proofs.Ytijcmdcjjcemfaa
open Go.ChangeShapes Go.WideShapes Go.ChangeAt Go.RowKit Go.Joins
set_option linter.unusedVariables false
set_option linter.unusedSimpArgs false

theorem mayM_of2 {r c n : Nat} (h1 : 1 ≤ r) (h2 : r ≤ 16) (h3 : 1 ≤ c) (h4 : c ≤ 16) (h : n = r * c) : mayM (r : Int) (c : Int) n = true := by
  subst h
  unfold mayM
  simp; omega
theorem numsIn_belowP {w w' : World} {v : Value} {zs : List Int} (hN : NumsIn w v zs) (hbe : Below w.heap.size w w') : NumsIn w' v zs := by
  refine ⟨hN.1, ?_⟩
  rcases hN.2 with h | ⟨b, o, c, e, h0, hm, hb, hc⟩
  · exact Or.inl h
  · exact Or.inr ⟨b, o, c, e, h0, hm, Nat.lt_of_lt_of_le hb hbe.size, fun i hi => below_celllt (hc i hi) hb hbe⟩
/-- Some rows of a matrix. -/
def pickL (ms : List Nat) (c : Nat) (zs : List Int) : List Nat := zs.flatMap fun z => rowN ms c z.toNat
theorem pickL_snoc {ms : List Nat} {c : Nat} {zs : List Int} {k : Nat} (h : k < zs.length) : pickL ms c (zs.take (k + 1)) = pickL ms c (zs.take k) ++ rowN ms c (zs.getD k 0).toNat := by
  rw [List.take_succ_eq_append_getElem h, pickL, List.flatMap_append, List.getElem_eq_getD (fallback := 0)]
  simp [pickL]
theorem u8s_one (ns : List Nat) : ∀ u ∈ u8s ns, u.oneCell' = true := by
  intro u hu
  obtain ⟨n, _, rfl⟩ := List.mem_map.1 hu
  rfl
theorem u8s_app (a b : List Nat) : u8s (a ++ b) = u8s a ++ u8s b := by simp [u8s]
theorem Three.belowB {w w' : World} {B B' : Nat} {a b c : Value} (h : Three w B a b c) (hb : Below B' w w') (hB : B < B') : Three w' B a b c := by
  have e := hb.block B hB
  have hf : ∀ j, w'.frozen? ⟨B, j, none⟩ = w.frozen? ⟨B, j, none⟩ := fun j => by unfold World.frozen?; rw [e]
  exact ⟨by rw [hb.cell (p := ⟨B, 0, none⟩) hB]; exact h.c0, by rw [hb.cell (p := ⟨B, 1, none⟩) hB]; exact h.c1, by rw [hb.cell (p := ⟨B, 2, none⟩) hB]; exact h.c2, by rw [hf]; exact h.f0, by rw [hf]; exact h.f1, by rw [hf]; exact h.f2⟩
theorem three_put2 {w : World} {B : Nat} {a b c : Value} (h : Three w B a b c) (u : Value) : Three (w.setCell ⟨B, 2, none⟩ u) B a b u :=
  ⟨by rw [World.cell?_setCell_other _ _ _ _ (by simp)]; exact h.c0, by rw [World.cell?_setCell_other _ _ _ _ (by simp)]; exact h.c1, World.cell?_setCell_same' _ _ _ (by rw [h.c2]; rfl), by rw [World.frozen?_setCell]; exact h.f0, by rw [World.frozen?_setCell]; exact h.f1, by rw [World.frozen?_setCell]; exact h.f2⟩
theorem row_cells {w : World} {b o kc ca zi : Nat} {ms : List Nat} (h : BytesV w (.slice (some ⟨b, o, none⟩) ms.length kc) ms) (hr : (zi + 1) * ca ≤ ms.length) :
    ∀ j u, (u8s (rowN ms ca zi))[j]? = some u → w.cell? ((⟨b, o + zi * ca, none⟩ : Addr).add j) = some u := by
  intro j u hu
  have hj : j < (rowN ms ca zi).length := by
    have := (List.getElem?_eq_some_iff.1 hu).1
    rwa [u8s_length] at this
  rw [rowN_length hr] at hj
  rw [Nat.add_mul, Nat.one_mul] at hr
  obtain ⟨b', o', e, _, hc⟩ := h.at_ (k := zi * ca + j) (by omega)
  cases e
  rw [Go.WideShapes.add_plain, Nat.add_assoc, hc, ← hu]
  have hg := rowN_get (bs := ms) (c := ca) (k := zi) hj
  have hl : j < (rowN ms ca zi).length := by rw [rowN_length (by rw [Nat.add_mul, Nat.one_mul]; omega)]; exact hj
  rw [← hg]
  simp [u8s, List.getD, hl]
theorem rowL_length {ms : List Nat} {c : Nat} : ∀ {zs : List Int}, (∀ z ∈ zs, (z.toNat + 1) * c ≤ ms.length) → (pickL ms c zs).length = zs.length * c
  | [], _ => by simp [pickL]
  | z :: zs, h => by
    have ih := rowL_length (ms := ms) (c := c) (zs := zs) fun x hx => h x (by simp [hx])
    have hr := rowN_length (bs := ms) (c := c) (k := z.toNat) (h z (by simp))
    simp only [pickL, List.flatMap_cons, List.length_append, List.length_cons] at ih ⊢
    rw [hr, ih, Nat.add_mul]; omega

set_option maxRecDepth 100000 in
set_option maxHeartbeats 4000000 in
theorem pick_yes (ra ca b o kc : Nat) (ms : List Nat) (vN : Value) (zs : List Int) (w : World) (hA : BytesV w (.slice (some ⟨b, o, none⟩) ms.length kc) ms) (hN : NumsIn w vN zs) (hla : ms.length = ra * ca)
    (r1 : 1 ≤ ra) (r16 : ra ≤ 16) (c1 : 1 ≤ ca) (c16 : ca ≤ 16) (hkc : ms.length ≤ kc) (hkc2 : kc ≤ 9223372036854775807) (z1 : 1 ≤ zs.length) (z16 : zs.length ≤ 16) (hz : ∀ z ∈ zs, 0 ≤ z ∧ z < (ra : Int)) :
    Calls Try.prog 54 #[matV (ra : Int) (ca : Int) (.slice (some ⟨b, o, none⟩) ms.length kc), vN] w fun e w' =>
      ∃ r, e = .returned (.tuple #[matV (zs.length : Int) (ca : Int) r, .int .i64 0]) ∧ w'.ownsRow w.heap.size 5 1 r (zs.length * ca) (u8s (pickL ms ca zs)) ∧ Below w.heap.size w w' := by
  obtain ⟨i0, hi, hz0, hz1, hz2⟩ := info_parts infoU8
  have HMA := Lib.hid (mayM_of2 r1 r16 c1 c16 hla)
  have HSD : Hid (decide (1 ≤ (zs.length : Int) ∧ (zs.length : Int) ≤ 16) = true) := decide_eq_true (by omega)
  have HNB : Hid (zs.any (badI (ra : Int)) = false) := by
    rw [Hid, List.any_eq_false]
    intro z hz'
    have := hz z hz'
    simp [badI]; omega
  obtain ⟨o1, ho1⟩ : ∃ o', o' = (Obj.cells #[.int .i64 (ra : Int), .int .i64 (ca : Int), .slice (some ⟨b, o, none⟩) ms.length kc] 55) := ⟨_, rfl⟩
  obtain ⟨o2, ho2⟩ : ∃ o', o' = (Obj.cells #[.int .i64 0, .int .i64 0, .slice none 0 0] 55) := ⟨_, rfl⟩
  have tA := Three.new w (.int .i64 (ra : Int)) (.int .i64 (ca : Int)) (.slice (some ⟨b, o, none⟩) ms.length kc) 55
  rw [← ho1] at tA
  have tR := Three.new (w.alloc o1) (.int .i64 0) (.int .i64 0) (.slice none 0 0) 55
  rw [World.size_alloc, ← ho2] at tR
  have hbe : Below w.heap.size w ((w.alloc o1).alloc o2) := ((Below.refl w.heap.size w).alloc (Nat.le_refl _) o1).alloc (by simp) o2
  have HTA := Lib.hid (tA.alloc o2)
  have HTR := Lib.hid tR
  have HBE := Lib.hid hbe
  have HA := Lib.hid (hA.below hbe)
  have HNW := Lib.hid (numsIn_belowP hN hbe)
  have HLA := Lib.hid hla
  have HZ := Lib.hid hz
  have hws : w.heap.size + 1 < ((w.alloc o1).alloc o2).heap.size := by simp
  obtain ⟨p, cap, rfl, hS⟩ := numsIn_slice hN
  have HS0 := Lib.hid (hS.below hbe)
  have HBD := Lib.hid hN.1
  obtain ⟨a0, a1, a2, _, _, _⟩ := tA.alloc o2
  rw [ho1, ho2] at a0 a1 a2
  clear hla hz hbe hA hN hS tA tR
  unfold matV
  go_enter Try.func54, Try.ntmps54
  go_wp2_with fail
  rw [← ho1, ← ho2]
  clear a0 a1 a2 ho1 ho2
  generalize (w.alloc o1).alloc o2 = W0 at *
  have HC := mayM_any (ra : Int) (ca : Int) (some ⟨b, o, none⟩) ms.length kc W0 (by omega)
  unfold matV at HC
  with_reducible refine HC.mono ?_
  rintro e w1 ⟨rfl, hb1⟩
  rw [HMA.out]
  clear HC
  obtain ⟨a0, a1, a2, _, _, _⟩ := HTA.out.below hb1
  have HB1 := Lib.hid hb1
  have HN1 := Lib.hid (numsIn_belowP HNW.out hb1)
  clear hb1
  go_wp2_with (first
    | (go_at_call 71; refine (side_is _ true HSD.out _).mono ?_; rintro e w' ⟨rfl, rfl⟩)
    | (go_at_call 72; refine (containsBad_is _ zs (ra : Int) w.heap.size false HNB.out _ HN1.out a0).mono ?_; rintro e w' ⟨rfl, rfl⟩))
  clear a0 a1 a2
  have t7 := Three.new w1 (.int .i64 (zs.length : Int)) (.int .i64 (ca : Int)) (.slice none 0 0) 55
  have hal := (Below.refl w1.heap.size w1).alloc (Nat.le_refl _) (.cells #[.int .i64 (zs.length : Int), .int .i64 (ca : Int), .slice none 0 0] 55)
  have HB8 := Lib.hid (cum2 HB1.out hal)
  have HT8 := Lib.hid t7
  have hb70 : w1.heap.size < (w1.alloc (.cells #[.int .i64 (zs.length : Int), .int .i64 (ca : Int), .slice none 0 0] 55)).heap.size := by simp
  have hW17 := HB1.out.size
  clear t7 hal
  generalize w1.alloc (.cells #[.int .i64 (zs.length : Int), .int .i64 (ca : Int), .slice none 0 0] 55) = W8 at *
  have HL8 := Lib.hid (rfl : w1.heap.size = w1.heap.size)
  clear HN1 HB1
  generalize w1.heap.size = b7 at *
  go_loopw [33] (fun ii wr => ∃ (k : Nat) (xv : Value), ii = .int .i64 k ∧ k ≤ zs.length ∧ Hid (Three wr b7 (.int .i64 (zs.length : Int)) (.int .i64 (ca : Int)) xv) ∧ wr.ownsRow (b7 + 1) 5 1 xv (k * ca) (u8s (pickL ms ca (zs.take k))) ∧ Hid (Below W0.heap.size W0 wr) ∧ b7 < wr.heap.size) (fun ii _ => zs.length - (intOf ii).toNat)
  case atStart => exact ⟨0, _, rfl, by omega, HT8, by rw [Nat.zero_mul]; exact World.ownsRow_nil _ _ _ _, HB8, hb70⟩
  case round =>
    clear HT8 HB8 hb70
    obtain ⟨k, xv, rfl, hk, HT7, hown, HB, hb7⟩ := hrel
    by_cases hlt : k < zs.length
    · obtain ⟨bz, oz, x, rfl, hx, HX, hcell⟩ := num_at (HS0.out.below HB.out) HBD.out hlt
      have hxz := HZ.out x (by rw [HX.out, ← List.getElem_eq_getD (h := hlt)]; exact List.getElem_mem _)
      obtain ⟨zi, hzi⟩ : ∃ zi : Nat, x = (zi : Int) := ⟨x.toNat, by omega⟩
      subst hzi
      have hzr : zi < ra := by omega
      have hrow : (zi + 1) * ca ≤ ms.length := by rw [HLA.out]; exact Nat.mul_le_mul_right ca hzr
      have i0' : (0 : Int) ≤ (k : Int) := by omega
      have i1' : (k : Int) < (zs.length : Int) := by omega
      have HRL := Lib.hid (rowN_length hrow)
      have hkca : k * ca ≤ 16 * 16 := Nat.mul_le_mul (by omega) c16
      have HTK : Hid ((k + 1) * ca = k * ca + ca) := Nat.succ_mul k ca
      have HPK : Hid (u8s (pickL ms ca (zs.take k)) ++ u8s (rowN ms ca zi) = u8s (pickL ms ca (zs.take (k + 1)))) := by
        rw [Hid, pickL_snoc hlt, ← HX.out, u8s_app]; rfl
      have HXV := Lib.hid HT7
      go_upto_region 8 with (fail)
      clear hcell
      refine wp_region_held (S := fun W' => Below W0.heap.size W0 W') (by kernel_rfl) ?_
      change wpAnyH _ _ _ _ _ 8 _ _ wr.drew
      have hcum := HB.out.drew
      have T7 := HT7.out.below (Below.refl wr.heap.size wr).drew
      have hown := own_below hown (Below.refl wr.heap.size wr).drew
      have hb7 : b7 < wr.drew.heap.size := hb7
      obtain ⟨x0, x1, x2, x3, x4, x5⟩ := id T7
      generalize wr.drew = V0 at *
      refine wpAnyH_take (i := 0) (oi := { dst := some 37, op := Op.fieldAddr 55 (Operand.tmp 7) 2, type := 0, pos := "matrix.go:84", after := #[], guard := none }) (v := ?_) rfl (by kernel_rfl) (by kernel_rfl) (by kernel_rfl) (fun _ _ _ h => h) (Or.inl ⟨by rfl, fun W' hW' => ?_⟩) hcum ?_
      rotate_left 1
      · go_simp
        try rfl
      try simp only [Act.put, List.setIfInBounds_toArray, List.set_cons_zero, List.set_cons_succ]
      refine wpAnyH_take (i := 2) (oi := { dst := some 39, op := Op.load 55 (Operand.tmp 2), type := 55, pos := "matrix.go:84", after := #[], guard := none }) (v := ?_) rfl (by kernel_rfl) (by kernel_rfl) (by kernel_rfl) (fun _ _ _ h => h) (Or.inl ⟨by rfl, fun W' hW' => ?_⟩) hcum ?_
      rotate_left 1
      · (obtain ⟨a0, a1, a2, _, _, _⟩ := HTA.out.below hW'; go_simp)
        try rfl
      try simp only [Act.put, List.setIfInBounds_toArray, List.set_cons_zero, List.set_cons_succ]
      refine wpAnyH_take (i := 3) (oi := { dst := some 40, op := Op.move (Operand.tmp 9), type := 3, pos := "matrix.go:84", after := #[], guard := none }) (v := ?_) rfl (by kernel_rfl) (by kernel_rfl) (by kernel_rfl) (fun _ _ _ h => h) (Or.inl ⟨by rfl, fun W' hW' => ?_⟩) hcum ?_
      rotate_left 1
      · go_simp
        try rfl
      try simp only [Act.put, List.setIfInBounds_toArray, List.set_cons_zero, List.set_cons_succ]
      refine wpAnyH_ready (rs := [1, 4]) (by kernel_rfl) (by simp) ?_
      refine AllReadyH.cons (o := { dst := some 38, op := Op.load 35 (Operand.tmp 37), type := 35, pos := "matrix.go:84", after := #[{ on := 0, ground := Ground.data }], guard := none }) rfl (fun K hK => ?_) (AllReadyH.cons (o := { dst := some 41, op := Op.call { callee := Callee.value (Operand.func 73), args := #[Operand.tmp 39, Operand.tmp 40], argTypes := #[55, 3] }, type := 35, pos := "matrix.go:84", after := #[{ on := 2, ground := Ground.data }, { on := 3, ground := Ground.data }], guard := none }) rfl (fun K hK => ?_) AllReadyH.nil)
      · rw [if_pos (by rfl)]
        go_simp
        refine hK.out _ _ hcum (fun _ => ?_)
        clear hK
        obtain ⟨V1, rfl⟩ : ∃ V, V = V0 := ⟨_, rfl⟩
        try simp only [Act.put, List.setIfInBounds_toArray, List.set_cons_zero, List.set_cons_succ]
        refine wpAnyH_ready (rs := [4]) (by kernel_rfl) (by simp) ?_
        refine AllReadyH.cons (o := { dst := some 41, op := Op.call { callee := Callee.value (Operand.func 73), args := #[Operand.tmp 39, Operand.tmp 40], argTypes := #[55, 3] }, type := 35, pos := "matrix.go:84", after := #[{ on := 2, ground := Ground.data }, { on := 3, ground := Ground.data }], guard := none }) rfl (fun K hK => ?_) AllReadyH.nil
        rw [if_pos (by rfl)]
        go_simp
        have HC := row_any (ra : Int) ca zi b o ms.length kc V1 c16 c1 (by omega) hrow hkc hkc2
        unfold matV at HC
        with_reducible refine HC.mono ?_
        rintro e V2 ⟨rfl, hbe⟩
        have T7 := T7.below hbe
        have hown := own_below hown hbe
        have hb7 := Nat.lt_of_lt_of_le hb7 hbe.size
        clear HC x0 x1 x2 x3 x4 x5
        obtain ⟨x0, x1, x2, x3, x4, x5⟩ := id T7
        have hcum := hcum.trans (hbe.mono hcum.size)
        refine hK.out _ _ hcum (fun _ => ?_)
        clear hK hbe
        try simp only [Act.put, List.setIfInBounds_toArray, List.set_cons_zero, List.set_cons_succ]
        refine wpAnyH_ready (rs := [5]) (by kernel_rfl) (by simp) ?_
        refine AllReadyH.cons (o := { dst := some 42, op := Op.call { callee := Callee.builtin Builtin.append, args := #[Operand.tmp 38, Operand.tmp 41], argTypes := #[35, 35] }, type := 35, pos := "matrix.go:84", after := #[{ on := 1, ground := Ground.data }, { on := 4, ground := Ground.data }, { on := 4, ground := Ground.chain }], guard := none }) rfl (fun K hK => ?_) AllReadyH.nil
        refine step_append_lies _ (by rfl) _ _ _ (by rfl) (b7 + 1) 5 i0 _ 1 1 Try.underlying35 hi hz0 hz1 hz2 rfl (by decide) _ _ _ (by rfl) hown ⟨b, o + zi * ca, none⟩ ca (kc - zi * ca) (u8s (rowN ms ca zi)) (by rfl) (by rw [u8s_length, HRL.out, Nat.mul_one]) (row_cells (HA.out.below hcum) hrow) (u8s_one _) (by omega) (by unfold maxLen; omega) (by omega) (by omega) V2.heap.size rfl ?_
        intro gg cap V3 hown' hgrow hat hltg
        have hbg : Below (b7 + 1) V2 V3 := (Below.refl (b7 + 1) V2).grown hgrow (by omega) (fun k hk => (hown.lt k hk).1)
        have T7 := T7.belowB hbg (by omega)
        have hsz := hbg.size
        have hb7 := Nat.lt_of_lt_of_le hb7 hbg.size
        have hcum := hcum.trans (hbg.mono (by omega))
        clear hown hgrow hat hltg x0 x1 x2 x3 x4 x5
        obtain ⟨x0, x1, x2, x3, x4, x5⟩ := id T7
        refine hK.out _ _ hcum (fun _ => ?_)
        clear hK hbg
        try simp only [Act.put, List.setIfInBounds_toArray, List.set_cons_zero, List.set_cons_succ]
        refine wpAnyH_take (i := 6) (oi := { dst := some 43, op := Op.fieldAddr 55 (Operand.tmp 7) 2, type := 0, pos := "matrix.go:84", after := #[{ on := 0, ground := Ground.phase }, { on := 1, ground := Ground.phase }, { on := 2, ground := Ground.phase }, { on := 3, ground := Ground.phase }, { on := 4, ground := Ground.phase }, { on := 5, ground := Ground.phase }], guard := none }) (v := ?_) rfl (by kernel_rfl) (by kernel_rfl) (by kernel_rfl) (fun _ _ _ h => h) (Or.inl ⟨by rfl, fun W' hW' => ?_⟩) hcum ?_
        rotate_left 1
        · go_simp
          try rfl
        try simp only [Act.put, List.setIfInBounds_toArray, List.set_cons_zero, List.set_cons_succ]
        refine wpAnyH_ready (rs := [7]) (by kernel_rfl) (by simp) ?_
        refine AllReadyH.cons (o := { dst := none, op := Op.store 35 (Operand.tmp 43) (Operand.tmp 42), type := 0, pos := "matrix.go:84", after := #[{ on := 6, ground := Ground.data }, { on := 5, ground := Ground.data }, { on := 5, ground := Ground.chain }, { on := 0, ground := Ground.phase }, { on := 1, ground := Ground.phase }, { on := 2, ground := Ground.phase }, { on := 3, ground := Ground.phase }, { on := 4, ground := Ground.phase }, { on := 5, ground := Ground.phase }], guard := none }) rfl (fun K hK => ?_) AllReadyH.nil
        rw [if_pos (by rfl)]
        go_simp
        clear x0 x1 x2 x3 x4 x5
        have T7 := three_put2 T7 (.slice (some ⟨gg, 0, none⟩) (k * ca + ca) cap)
        have hown := own_cell hown' (d := ⟨b7, 2, none⟩) (u := .slice (some ⟨gg, 0, none⟩) (k * ca + ca) cap) (by dsimp only; omega)
        have hcum := hcum.setCell (p := ⟨b7, 2, none⟩) (by dsimp only; omega) (.slice (some ⟨gg, 0, none⟩) (k * ca + ca) cap)
        have hb7 : b7 < (V3.setCell ⟨b7, 2, none⟩ (.slice (some ⟨gg, 0, none⟩) (k * ca + ca) cap)).heap.size := by rw [World.size_setCell]; exact hb7
        refine hK.out _ _ hcum (fun _ => ?_)
        clear hK hown'
        generalize V3.setCell ⟨b7, 2, none⟩ (.slice (some ⟨gg, 0, none⟩) (k * ca + ca) cap) = V4 at *
        try simp only [Act.put, List.setIfInBounds_toArray, List.set_cons_zero, List.set_cons_succ]
        refine wpAnyH_done (by kernel_rfl) ?_ _
        go_wp2_with fail
        go_roundw
        case rel => exact ⟨k + 1, _, by go_num, by omega, Lib.hid T7, by rw [HTK.out, ← HPK.out]; exact hown, Lib.hid hcum, hb7⟩
        case measure => simp [intOf]; omega
      · rw [if_pos (by rfl)]
        go_simp
        have HC := row_any (ra : Int) ca zi b o ms.length kc V0 c16 c1 (by omega) hrow hkc hkc2
        unfold matV at HC
        with_reducible refine HC.mono ?_
        rintro e V1 ⟨rfl, hbe⟩
        have T7 := T7.below hbe
        have hown := own_below hown hbe
        have hb7 := Nat.lt_of_lt_of_le hb7 hbe.size
        clear HC x0 x1 x2 x3 x4 x5
        obtain ⟨x0, x1, x2, x3, x4, x5⟩ := id T7
        have hcum := hcum.trans (hbe.mono hcum.size)
        refine hK.out _ _ hcum (fun _ => ?_)
        clear hK hbe
        try simp only [Act.put, List.setIfInBounds_toArray, List.set_cons_zero, List.set_cons_succ]
        refine wpAnyH_ready (rs := [1]) (by kernel_rfl) (by simp) ?_
        refine AllReadyH.cons (o := { dst := some 38, op := Op.load 35 (Operand.tmp 37), type := 35, pos := "matrix.go:84", after := #[{ on := 0, ground := Ground.data }], guard := none }) rfl (fun K hK => ?_) AllReadyH.nil
        rw [if_pos (by rfl)]
        go_simp
        refine hK.out _ _ hcum (fun _ => ?_)
        clear hK
        obtain ⟨V2, rfl⟩ : ∃ V, V = V1 := ⟨_, rfl⟩
        try simp only [Act.put, List.setIfInBounds_toArray, List.set_cons_zero, List.set_cons_succ]
        refine wpAnyH_ready (rs := [5]) (by kernel_rfl) (by simp) ?_
        refine AllReadyH.cons (o := { dst := some 42, op := Op.call { callee := Callee.builtin Builtin.append, args := #[Operand.tmp 38, Operand.tmp 41], argTypes := #[35, 35] }, type := 35, pos := "matrix.go:84", after := #[{ on := 1, ground := Ground.data }, { on := 4, ground := Ground.data }, { on := 4, ground := Ground.chain }], guard := none }) rfl (fun K hK => ?_) AllReadyH.nil
        refine step_append_lies _ (by rfl) _ _ _ (by rfl) (b7 + 1) 5 i0 _ 1 1 Try.underlying35 hi hz0 hz1 hz2 rfl (by decide) _ _ _ (by rfl) hown ⟨b, o + zi * ca, none⟩ ca (kc - zi * ca) (u8s (rowN ms ca zi)) (by rfl) (by rw [u8s_length, HRL.out, Nat.mul_one]) (row_cells (HA.out.below hcum) hrow) (u8s_one _) (by omega) (by unfold maxLen; omega) (by omega) (by omega) V2.heap.size rfl ?_
        intro gg cap V3 hown' hgrow hat hltg
        have hbg : Below (b7 + 1) V2 V3 := (Below.refl (b7 + 1) V2).grown hgrow (by omega) (fun k hk => (hown.lt k hk).1)
        have T7 := T7.belowB hbg (by omega)
        have hsz := hbg.size
        have hb7 := Nat.lt_of_lt_of_le hb7 hbg.size
        have hcum := hcum.trans (hbg.mono (by omega))
        clear hown hgrow hat hltg x0 x1 x2 x3 x4 x5
        obtain ⟨x0, x1, x2, x3, x4, x5⟩ := id T7
        refine hK.out _ _ hcum (fun _ => ?_)
        clear hK hbg
        try simp only [Act.put, List.setIfInBounds_toArray, List.set_cons_zero, List.set_cons_succ]
        refine wpAnyH_take (i := 6) (oi := { dst := some 43, op := Op.fieldAddr 55 (Operand.tmp 7) 2, type := 0, pos := "matrix.go:84", after := #[{ on := 0, ground := Ground.phase }, { on := 1, ground := Ground.phase }, { on := 2, ground := Ground.phase }, { on := 3, ground := Ground.phase }, { on := 4, ground := Ground.phase }, { on := 5, ground := Ground.phase }], guard := none }) (v := ?_) rfl (by kernel_rfl) (by kernel_rfl) (by kernel_rfl) (fun _ _ _ h => h) (Or.inl ⟨by rfl, fun W' hW' => ?_⟩) hcum ?_
        rotate_left 1
        · go_simp
          try rfl
        try simp only [Act.put, List.setIfInBounds_toArray, List.set_cons_zero, List.set_cons_succ]
        refine wpAnyH_ready (rs := [7]) (by kernel_rfl) (by simp) ?_
        refine AllReadyH.cons (o := { dst := none, op := Op.store 35 (Operand.tmp 43) (Operand.tmp 42), type := 0, pos := "matrix.go:84", after := #[{ on := 6, ground := Ground.data }, { on := 5, ground := Ground.data }, { on := 5, ground := Ground.chain }, { on := 0, ground := Ground.phase }, { on := 1, ground := Ground.phase }, { on := 2, ground := Ground.phase }, { on := 3, ground := Ground.phase }, { on := 4, ground := Ground.phase }, { on := 5, ground := Ground.phase }], guard := none }) rfl (fun K hK => ?_) AllReadyH.nil
        rw [if_pos (by rfl)]
        go_simp
        clear x0 x1 x2 x3 x4 x5
        have T7 := three_put2 T7 (.slice (some ⟨gg, 0, none⟩) (k * ca + ca) cap)
        have hown := own_cell hown' (d := ⟨b7, 2, none⟩) (u := .slice (some ⟨gg, 0, none⟩) (k * ca + ca) cap) (by dsimp only; omega)
        have hcum := hcum.setCell (p := ⟨b7, 2, none⟩) (by dsimp only; omega) (.slice (some ⟨gg, 0, none⟩) (k * ca + ca) cap)
        have hb7 : b7 < (V3.setCell ⟨b7, 2, none⟩ (.slice (some ⟨gg, 0, none⟩) (k * ca + ca) cap)).heap.size := by rw [World.size_setCell]; exact hb7
        refine hK.out _ _ hcum (fun _ => ?_)
        clear hK hown'
        generalize V3.setCell ⟨b7, 2, none⟩ (.slice (some ⟨gg, 0, none⟩) (k * ca + ca) cap) = V4 at *
        try simp only [Act.put, List.setIfInBounds_toArray, List.set_cons_zero, List.set_cons_succ]
        refine wpAnyH_done (by kernel_rfl) ?_ _
        go_wp2_with fail
        go_roundw
        case rel => exact ⟨k + 1, _, by go_num, by omega, Lib.hid T7, by rw [HTK.out, ← HPK.out]; exact hown, Lib.hid hcum, hb7⟩
        case measure => simp [intOf]; omega
    · have hke : k = zs.length := by omega
      rw [hke, List.take_length] at hown
      have hT7 := HT7.out
      have hfr := three_put ((HTR.out.below HB.out)) (.int .i64 (zs.length : Int)) (.int .i64 (ca : Int)) xv
      have HO := Lib.hid (own_cell (own_cell (own_cell hown (d := ⟨w.heap.size + 1, 0, none⟩) (u := .int .i64 (zs.length : Int)) (by dsimp only; omega)) (d := ⟨w.heap.size + 1, 1, none⟩) (u := .int .i64 (ca : Int)) (by dsimp only; omega)) (d := ⟨w.heap.size + 1, 2, none⟩) (u := xv) (by dsimp only; omega))
      obtain ⟨Ax, cx, rfl⟩ := own_shape hown
      obtain ⟨x0, x1, x2, _, _, _⟩ := hT7
      obtain ⟨r0, r1', r2, r3, r4, r5⟩ := HTR.out.below HB.out
      have HBF := Lib.hid (HBE.out.trans (HB.out.mono HBE.out.size))
      clear hke hown
      go_wp2_with fail
      obtain ⟨t0, t1, t2, _, _, _⟩ := hfr
      refine bodyPost_ret (v := .tuple #[matV (zs.length : Int) (ca : Int) (.slice Ax (zs.length * ca) cx), .int .i64 0]) (by simp [results, Try.results54, go_sem, matV, t0, t1, t2]) rfl ⟨_, rfl, ?_, ?_⟩
      · exact own_base HO.out (by omega)
      · exact ((HBF.out.setCell (p := ⟨w.heap.size + 1, 0, none⟩) (by dsimp only; omega) _).setCell (p := ⟨w.heap.size + 1, 1, none⟩) (by dsimp only; omega) _).setCell (p := ⟨w.heap.size + 1, 2, none⟩) (by dsimp only; omega) _
end Go.Proofs.Ytijcmdcjjcemfaa

/- Small helpers of the statements: Within brings a number within bounds; Texts says how much some texts are; Heavy whether that is too much. -/

namespace Go.Proofs.Ytijcmdcjjcemfaa
open Go.ChangeShapes Go.WideShapes Go.ChangeAt Go.RowKit Go.Joins
set_option linter.unusedVariables false
set_option linter.unusedSimpArgs false

/-- A number brought below another one. -/
def withinI (i n : Int) : Int := wrap64 ((IntKind.u64.wrap i).tmod (IntKind.u64.wrap n))
theorem within_calc (i n : Int) (h0 : 0 < n) (h1 : n ≤ 9223372036854775807) : IntKind.u64.wrap n ≠ 0 ∧ 0 ≤ withinI i n ∧ withinI i n < n := by
  unfold withinI
  have e : IntKind.u64.wrap n = n := IntWalk.u64_in _ (by omega)
  rw [e]
  have hw : 0 ≤ IntKind.u64.wrap i := by rw [IntKind.wrap_u64]; omega
  rw [Int.tmod_eq_emod_of_nonneg hw]
  have h2 := Int.emod_nonneg (IntKind.u64.wrap i) (b := n) (by omega)
  have h3 := Int.emod_lt_of_pos (IntKind.u64.wrap i) h0
  generalize IntKind.u64.wrap i % n = r at *
  rw [IntWalk.wrap64_in _ (by omega)]
  exact ⟨by omega, h2, h3⟩
theorem within_bd (i n : Int) (h0 : 0 < n) (h1 : n ≤ 9223372036854775807) : 0 ≤ withinI i n ∧ withinI i n < n := (within_calc i n h0 h1).2

set_option maxRecDepth 100000 in
set_option maxHeartbeats 400000 in
theorem within_any (i n : Int) (w : World) (h0 : 0 < n) (h1 : n ≤ 9223372036854775807) :
    Calls Try.prog 21 #[.int .i64 i, .int .i64 n] w fun e w' => e = .returned (.int .i64 (withinI i n)) ∧ w = w' := by
  obtain ⟨hne, h2⟩ := within_calc i n h0 h1
  clear h0 h1 h2
  go_enter Try.func21, Try.ntmps21
  go_wp2
  go_ret
  exact ⟨rfl, rfl⟩

/-- What Texts comes to: how much the texts are, or more than is played. -/
def TotalOut (ss : List ByteArray) (w : World) (e : Ending) (w' : World) : Prop := ∃ r : Nat, (r = total ss ∨ 1048576 ≤ r) ∧ r ≤ 9223372036854775807 ∧ e = .returned (.int .i64 (r : Int)) ∧ w = w'

set_option maxRecDepth 100000 in
set_option maxHeartbeats 400000 in
theorem texts_any (v : Value) (ss : List ByteArray) (w : World) (h : TextsIn w v ss) :
    Calls Try.prog 22 #[v] w (TotalOut ss w) := by
  obtain ⟨p, cap, rfl, h16, hs, hS⟩ := h
  have HS := Lib.hid hS
  have HB := Lib.hid hs
  clear hS hs
  go_enter Try.func22, Try.ntmps22
  go_wp2_with fail
  go_loop [3, 4] (fun n i => ∃ k m : Nat, i = .int .i64 k ∧ n = .int .i64 m ∧ k ≤ ss.length ∧ m ≤ 9000000000000000000 ∧ Hid (m = ss.length + ((ss.take k).map ByteArray.size).sum)) (fun _ i => ss.length - (intOf i).toNat)
  case atStart => exact ⟨0, ss.length, rfl, rfl, by omega, by omega, by simp [Hid]⟩
  case round =>
    obtain ⟨k, m, rfl, rfl, hk, hm, HM⟩ := hrel
    by_cases hlt : k < ss.length
    · obtain ⟨b, off, s, rfl, hsz, HE, hcell⟩ := text_at HS.out HB.out hlt
      by_cases h20 : m < 1048576
      · have hd : decide ((m : Int) < 1048576) = true := by simp; omega
        go_wp2_with fail
        go_round
        case rel => exact ⟨k + 1, m + s.size, by go_num, by go_num, by omega, by omega, by rw [Hid, total_step hlt, ← HE.out, HM.out]; omega⟩
        case measure => simp [intOf]; omega
      · have hd : decide ((m : Int) < 1048576) = false := by simp; omega
        go_wp2_with fail
        go_ret
        exact ⟨m, Or.inr (by omega), by omega, rfl, rfl⟩
    · have hke : k = ss.length := by omega
      have HT : Hid (m = total ss) := by rw [Hid, HM.out, hke, List.take_length]; rfl
      go_wp2_with fail
      all_goals
        go_ret
        exact ⟨m, Or.inl HT.out, by omega, rfl, rfl⟩
end Go.Proofs.Ytijcmdcjjcemfaa

/- Structs and slices of structs that came in, opened, whatever they hold. -/

namespace Go.Proofs.Ytijcmdcjjcemfaa
open Go.ChangeShapes Go.WideShapes Go.ChangeAt Go.RowKit Go.Joins
open Go.Deep (open_slice open_slice1 oneCellFields hone_of)
set_option linter.unusedVariables false
set_option linter.unusedSimpArgs false

section
variable {H : Type} {enc : TypeId × Value → H} {P : Program} {w : World} {base : Nat} {spare : Nat → Bool} {held : Bool}

/-- One field of a struct's cells. -/
theorem open_field {t : TypeId} {fs : Array Field} {fuel : Nat} {cs : List Value} {x : DataW H × List MemPlace} (ht : P.underlying t = some (.struct fs)) (h : DataW.trod enc P w base spare held fuel t cs = some x) (hF : Fits P t x.1)
    (j : Nat) {f : Field} (hj : fs[j]? = some f) (cs' : List Value) {k : Nat} (hk : P.cellsOf f.type = k) (hc : (cs.drop f.offset).take k = cs') :
    ∃ n y, DataW.trod enc P w base spare held n f.type cs' = some y ∧ Fits P f.type y.1 := by
  obtain ⟨xs, n, _, rfl, _, hl, hg⟩ := DataW.trod_struct ht h
  have hlt : j < xs.length := by rw [hl]; exact (Array.getElem?_eq_some_iff.1 hj).1
  have h1 := hg j f hj
  rw [hk, hc, List.getElem?_eq_getElem hlt] at h1
  refine ⟨n, xs[j], h1, fits_field ht hF hj ?_⟩
  simp [hlt]

/-- A slice value, of whatever it is. -/
theorem open_any {t e : TypeId} {fuel : Nat} {v : Value} {x : DataW H × List MemPlace} (ht : P.underlying t = some (.slice e)) (h : DataW.trod enc P w base spare held fuel t [v] = some x) :
    ∃ p n c, v = .slice p n c ∧ n ≤ 9223372036854775807 := by
  rcases open_slice ht h with ⟨hcs, _⟩ | ⟨a, len, cap, m, n, D, Pl, hcs, hb, hl, hm, _⟩
  · simp only [List.cons.injEq, and_true] at hcs
    exact ⟨_, _, _, hcs, by omega⟩
  · simp only [List.cons.injEq, and_true] at hcs
    unfold maxLen at hm
    exact ⟨_, _, _, hcs, by omega⟩

theorem pick_list {α : Type} {m : Nat} {p : Nat → α → Prop} (d : α) (h : ∀ i, i < m → ∃ a, p i a) : ∃ l : List α, l.length = m ∧ ∀ i, i < m → p i (l.getD i d) := by
  refine ⟨(List.range m).map fun i => if hi : i < m then (h i hi).choose else d, by simp, fun i hi => ?_⟩
  have := (h i hi).choose_spec
  simpa [List.getD, hi] using this

/-- A slice value of truths that reads as these. -/
def BoolsIn (w : World) (v : Value) (bs : List Bool) : Prop :=
  ∃ p cap, v = .slice p bs.length cap ∧ SliceIn w p bs.length (fun i => .bool (bs.getD i false))
theorem BoolsIn.below {w w' : World} {v : Value} {bs : List Bool} (h : BoolsIn w v bs) (hb : Below w.heap.size w w') : BoolsIn w' v bs := by
  obtain ⟨p, cap, h1, h4⟩ := h
  exact ⟨p, cap, h1, h4.below hb⟩
theorem boolsIn_open {t e : TypeId} {fuel : Nat} {v : Value} {x : DataW H × List MemPlace} (ht : P.underlying t = some (.slice e)) (he : P.underlying e = some .bool) (hc : P.cellsOf e = 1)
    (h : DataW.trod enc P w base spare held fuel t [v] = some x) : ∃ bs, BoolsIn w v bs := by
  rcases open_slice1 ht hc h with ⟨hcs, _⟩ | ⟨a, len, cap, m, n, V, D, Pl, hcs, hb, hl, hm, hmm, hx, hi⟩
  · simp only [List.cons.injEq, and_true] at hcs
    exact ⟨[], _, _, hcs, by simp, fun i hi => by simp at hi⟩
  · simp only [List.cons.injEq, and_true] at hcs
    subst hcs
    have hlm : len ≤ m := by rw [hmm]; split <;> omega
    obtain ⟨bs, hbl, hbs⟩ := pick_list (m := len) false (p := fun i b => w.cell? (a.add i) = some (.bool b)) (fun i hi' => by
      obtain ⟨h1, h2⟩ := hi i (by omega)
      obtain ⟨b, hb, _⟩ := DataW.trod_bool he h2
      simp only [List.cons.injEq, and_true] at hb
      exact ⟨b, by rw [h1, hb]⟩)
    unfold maxLen at hm
    refine ⟨bs, some a, cap, by rw [hbl], ?_⟩
    rw [hbl]
    refine ⟨by omega, fun i hi' => ?_⟩
    have hci := hbs i hi'
    obtain ⟨b, off, spot⟩ := a
    have hspot : spot = none := by simpa [Addr.add] using World.cell?_spot (hbs 0 (by omega))
    subst hspot
    rw [Go.WideShapes.add_plain] at hci
    exact ⟨b, off, rfl, cell_block hci, hci⟩

/-- A slice of structs of three numbers. -/
theorem threesIn_open {t e : TypeId} {f0 f1 f2 : Field} {fuel : Nat} {v : Value} {x : DataW H × List MemPlace} (ht : P.underlying t = some (.slice e)) (he : P.underlying e = some (.struct #[f0, f1, f2])) (hC : P.cellsOf e = 3)
    (u0 : P.underlying f0.type = some (.int .i64)) (u1 : P.underlying f1.type = some (.int .i64)) (u2 : P.underlying f2.type = some (.int .i64))
    (o0 : f0.offset = 0) (o1 : f1.offset = 1) (o2 : f2.offset = 2) (c0 : P.cellsOf f0.type = 1) (c1 : P.cellsOf f1.type = 1) (c2 : P.cellsOf f2.type = 1)
    (h : DataW.trod enc P w base spare held fuel t [v] = some x) : ∃ l, ThreesIn w v l ∧ l.length ≤ 9223372036854775807 ∧ (∀ s ∈ l, (Lit.int .i64 s.1).wf = true ∧ (Lit.int .i64 s.2.1).wf = true ∧ (Lit.int .i64 s.2.2).wf = true) ∧ ∃ A c, v = .slice A l.length c ∧ l.length ≤ c := by
  rcases open_slice ht h with ⟨hcs, _⟩ | ⟨a, len, cap, m, n, D, Pl, hcs, hb, hl, hm, hmm, hx, hi⟩
  · simp only [List.cons.injEq, and_true] at hcs
    subst hcs
    exact ⟨[], RowIs.nil _ _ _ _, by simp, by simp, none, 0, rfl, by simp⟩
  · simp only [List.cons.injEq, and_true] at hcs
    subst hcs
    have hlm : len ≤ m := by rw [hmm]; split <;> omega
    rw [hC] at hi
    have hcell : ∀ i, i < len → ∃ s : T3, (w.cell? (a.add (i * 3)) = some (.int .i64 s.1) ∧ w.cell? (a.add (i * 3 + 1)) = some (.int .i64 s.2.1) ∧ w.cell? (a.add (i * 3 + 2)) = some (.int .i64 s.2.2)) ∧
        (Lit.int .i64 s.1).wf = true ∧ (Lit.int .i64 s.2.1).wf = true ∧ (Lit.int .i64 s.2.2).wf = true := by
      intro i hi'
      obtain ⟨cs', hc, ht'⟩ := hi i (by omega)
      obtain ⟨_, hcl, hat⟩ := World.cells?_some hc
      obtain ⟨ys, n', _, _, hlen, hyl, hf⟩ := DataW.trod_struct he ht'
      match cs', hcl with
      | [w0, w1, w2], _ =>
        have g0 := hf 0 f0 rfl
        have g1 := hf 1 f1 rfl
        have g2 := hf 2 f2 rfl
        rw [o0, c0] at g0; rw [o1, c1] at g1; rw [o2, c2] at g2
        have l0 : ys[0]? = some (ys[0]'(by rw [hyl]; simp)) := List.getElem?_eq_getElem _
        have l1 : ys[1]? = some (ys[1]'(by rw [hyl]; simp)) := List.getElem?_eq_getElem _
        have l2 : ys[2]? = some (ys[2]'(by rw [hyl]; simp)) := List.getElem?_eq_getElem _
        rw [l0] at g0; rw [l1] at g1; rw [l2] at g2
        obtain ⟨z0, e0, _, b0⟩ := DataW.trod_int u0 g0
        obtain ⟨z1, e1, _, b1⟩ := DataW.trod_int u1 g1
        obtain ⟨z2, e2, _, b2⟩ := DataW.trod_int u2 g2
        simp at e0 e1 e2
        subst e0 e1 e2
        have k0 := hat 0 (by omega); have k1 := hat 1 (by omega); have k2 := hat 2 (by omega)
        rw [Go.Deep.add_add] at k0 k1 k2
        exact ⟨(z0, z1, z2), ⟨by simpa using k0, by simpa using k1, by simpa using k2⟩, b0, b1, b2⟩
    obtain ⟨l, hll, hls⟩ := pick_list (m := len) ((0, 0, 0) : T3) hcell
    unfold maxLen at hm
    refine ⟨l, ⟨by rw [rows3_length], some a, cap, by rw [hll], fun hn => ?_⟩, by omega, ?_, some a, cap, by rw [hll], by omega⟩
    · obtain ⟨b, off, spot⟩ := a
      have hspot : spot = none := by simpa [Addr.add] using World.cell?_spot (hls 0 (by omega)).1.1
      subst hspot
      simp only [Go.WideShapes.add_plain] at hls
      refine ⟨b, off, rfl, cell_block (hls 0 (by omega)).1.1, fun j u hu => ?_⟩
      have hj : j < l.length * 3 := by rw [← rows3_length]; exact (List.getElem?_eq_some_iff.1 hu).1
      have hjl : j / 3 < l.length := by omega
      obtain ⟨q0, q1, q2⟩ := rows3_get l (j / 3) (l.getD (j / 3) (0, 0, 0)) (by simp [List.getD, hjl])
      obtain ⟨⟨r0, r1, r2⟩, _⟩ := hls (j / 3) (by omega)
      have hd : j = j / 3 * 3 + j % 3 := by omega
      have hm3 : j % 3 = 0 ∨ j % 3 = 1 ∨ j % 3 = 2 := by omega
      rcases hm3 with e | e | e <;> rw [e] at hd
      · rw [hd, Nat.add_zero] at hu ⊢; rw [q0] at hu; cases hu; exact r0
      · rw [hd] at hu ⊢; rw [q1] at hu; cases hu; exact r1
      · rw [hd] at hu ⊢; rw [q2] at hu; cases hu; exact r2
    · intro s hs
      obtain ⟨i, hi', rfl⟩ := List.getElem_of_mem hs
      have := (hls i (by omega)).2
      simpa [List.getD, hi'] using this
end
end Go.Proofs.Ytijcmdcjjcemfaa

/- What comes in to many laws: shapes, texts and truths. -/

namespace Go.Proofs.Ytijcmdcjjcemfaa
open Go.ChangeShapes Go.WideShapes Go.ChangeAt Go.RowKit Go.Joins
set_option linter.unusedVariables false
set_option linter.unusedSimpArgs false

theorem cellsStr : Try.prog.cellsOf 9 = 1 := by kernel_rfl
theorem bytesStr : Try.prog.bytesOf 9 = 16 := by kernel_rfl
theorem cellsBool : Try.prog.cellsOf 4 = 1 := by kernel_rfl
theorem cellsInt : Try.prog.cellsOf 3 = 1 := by kernel_rfl
theorem cellsShape : Try.prog.cellsOf 29 = 3 := by kernel_rfl
theorem cellsAsk4 : Try.prog.cellsOf 26 = 3 := by kernel_rfl
theorem cellsShapes : Try.prog.cellsOf 22 = 1 := by kernel_rfl
theorem cellsStrs : Try.prog.cellsOf 23 = 1 := by kernel_rfl
theorem cellsBools : Try.prog.cellsOf 24 = 1 := by kernel_rfl

def i64Ok (z : Int) : Prop := -9223372036854775808 ≤ z ∧ z ≤ 9223372036854775807
theorem i64Ok_of {z : Int} (h : (Lit.int .i64 z).wf = true) : i64Ok z := by
  simpa [i64Ok, Lit.wf, IntKind.min, IntKind.max, IntKind.signed, IntKind.bits] using h

theorem ask4_open {H : Type} {enc : TypeId × Value → H} {W : World} {base fuel : Nat} {spare : Nat → Bool} {held : Bool} {c0 c1 c2 : Value} {x : DataW H × List MemPlace}
    (h : DataW.trod enc Try.prog W base spare held fuel 26 [c0, c1, c2] = some x) (hf : Fits Try.prog 26 x.1) :
    (∃ l, ThreesIn W c0 l ∧ l.length ≤ 9223372036854775807 ∧ ∀ s ∈ l, i64Ok s.1 ∧ i64Ok s.2.1 ∧ i64Ok s.2.2) ∧ (∃ ss, TextsIn W c1 ss) ∧ (∃ bs, BoolsIn W c2 bs) := by
  obtain ⟨n0, y0, h0, f0⟩ := open_field Try.underlying26 h hf 0 rfl [c0] cellsShapes rfl
  obtain ⟨n1, y1, h1, f1⟩ := open_field Try.underlying26 h hf 1 rfl [c1] cellsStrs rfl
  obtain ⟨n2, y2, h2, f2⟩ := open_field Try.underlying26 h hf 2 rfl [c2] cellsBools rfl
  obtain ⟨l, hl, hl2, hl3, _⟩ := threesIn_open Try.underlying22 Try.underlying29 cellsShape Try.underlying3 Try.underlying3 Try.underlying3 rfl rfl rfl cellsInt cellsInt cellsInt h0
  obtain ⟨ss, hS⟩ := textsIn_open Try.underlying23 Try.underlying9 cellsStr bytesStr h1 f1
  obtain ⟨bs, hB⟩ := boolsIn_open Try.underlying24 Try.underlying4 cellsBool h2
  exact ⟨⟨l, hl, hl2, fun s hs => ⟨i64Ok_of (hl3 s hs).1, i64Ok_of (hl3 s hs).2.1, i64Ok_of (hl3 s hs).2.2⟩⟩, ⟨ss, hS⟩, ⟨bs, hB⟩⟩

theorem ThreesIn.below {w w' : World} {v : Value} {l : List T3} (h : ThreesIn w v l) (hb : Below w.heap.size w w') : ThreesIn w' v l := RowIs.below h hb
theorem ThreesIn.len {w : World} {v : Value} {l : List T3} (h : ThreesIn w v l) : ∃ A c, v = .slice A l.length c := by
  obtain ⟨_, A, c, rfl, _⟩ := h
  exact ⟨A, c, rfl⟩
theorem TextsIn.below {w w' : World} {v : Value} {ss : List ByteArray} (h : TextsIn w v ss) (hb : Below w.heap.size w w') : TextsIn w' v ss := by
  obtain ⟨p, cap, h1, h2, h3, h4⟩ := h
  exact ⟨p, cap, h1, h2, h3, h4.below hb⟩
end Go.Proofs.Ytijcmdcjjcemfaa
