/- matrix.Lanes, walked. -/
import Derived.Test.YtijcmdcjjcemfaaPkA08
import Derived.Test.YtijcmdcjjcemfaaPkA05
import Derived.RangeFuncBox
import Derived.OwnWalkIn
namespace Go.Proofs.Ytijcmdcjjcemfaa
open Go.ChangeShapes Go.WideShapes Go.ChangeAt Go.RowKit Go.Joins Go.Shelf
set_option linter.unusedVariables false
set_option linter.unusedSimpArgs false
attribute [local go_sem] Oper.semAt_some

theorem boxed_belowM {w w' : World} {B : Nat} {T : TypeId} {v : Value} (h : Boxed w B T v) (hb : Below w.heap.size w w') : Boxed w' B T v :=
  (hb.block B (Boxed.lt h)).trans h
theorem boxed_keptM {p : Nat → Prop} {w w' : World} {B : Nat} {T : TypeId} {v : Value} (h : Boxed w B T v) (k : Kept p w w') (hp : ¬ p B) : Boxed w' B T v :=
  (k.block B (Boxed.lt h) hp).trans h
theorem app_belowB {W w1 : World} {o : Obj} {B : Nat} {e : TypeId} {size n : Nat} {v : Value} {xs : List Value} (hB : B ≤ W.heap.size) (hown : W.ownsRow B e size v n xs) (hgrow : (W.alloc o).grownBy w1 v.ownBlock) : Below B W w1 :=
  ((Below.refl B W).alloc hB o).grown hgrow (by simp; omega) (fun k hk => (hown.lt k hk).1)
theorem own_grown {W W' : World} {row : Option Nat} {B k n : Nat} {e : TypeId} {v : Value} {xs : List Value} (h : W.ownsRow B e k v n xs) (hg : W.grownBy W' row) (hr : ∀ r, row = some r → ∃ o : Obj, W.heap[r]? = some o ∧ o.isCells = false) : W'.ownsRow B e k v n xs := by
  refine h.kept hg ?_
  rcases h.2 with ⟨rfl, _⟩ | ⟨g, cap, cur, rfl, _, hgb, _⟩
  · exact .inl rfl
  · refine .inr fun e' => ?_
    obtain ⟨o, ho, hc⟩ := hr g (by simpa [Value.ownBlock] using e'.symm)
    rw [hgb] at ho; cases ho; cases hc
theorem boxed_grown {W W' : World} {row : Option Nat} {B : Nat} {T : TypeId} {v : Value} (h : Boxed W B T v) (hg : W.grownBy W' row) (hr : ∀ r, row = some r → ∃ o : Obj, W.heap[r]? = some o ∧ o.isCells = false) : Boxed W' B T v :=
  h.kept hg fun e => by
    obtain ⟨o, ho, hc⟩ := hr B e.symm
    rw [show W.heap[B]? = _ from h] at ho; cases ho; cases hc
theorem keepsOthers_at {W W' : World} {X : Nat} (h : Kept (fun k => k = X) W W') {ob : Obj} (hX : W.heap[X]? = some ob) (hc : ob.isCells = true) : KeepsOthers W W' :=
  ⟨h.size, fun k o hk ho => by
    have hkX : k ≠ X := fun e => by
      subst e
      rw [hk] at hX
      cases hX
      rw [hc] at ho; cases ho
    rw [h.block k (Array.getElem?_eq_some_iff.1 hk).1 hkX]; exact hk⟩
def laneRows (ms : List Nat) (l : List ByteArray) (ca n : Nat) {ra : Nat} (pre : List (Fin ra)) : List Value := (pre.map fun i => rowLane ms l ca n i.1 ca).map Value.string
theorem laneRows_snoc (ms : List Nat) (l : List ByteArray) (ca n : Nat) {ra : Nat} (pre : List (Fin ra)) (i : Fin ra) : laneRows ms l ca n (pre ++ [i]) = laneRows ms l ca n pre ++ [.string (rowLane ms l ca n i.1 ca)] := by simp [laneRows]
theorem laneRows_all (ms : List Nat) (l : List ByteArray) (ca n ra : Nat) : laneRows ms l ca n (finL ra ra (Nat.le_refl ra)) = (applyL ms l ra ca n).map Value.string := by
  rw [laneRows, applyL, ← finL_val ra ra (Nat.le_refl ra), List.map_map (f := Fin.val)]; rfl

set_option maxRecDepth 100000 in
set_option maxHeartbeats 4000000 in
theorem lanes_in (ra ca n : Nat) (ba oa na ka : Nat) (vl : Value) (ms : List Nat) (l : List ByteArray) (w : World)
    (ha : BytesV w (.slice (some ⟨ba, oa, none⟩) na ka) ms) (hl : Strs6 w vl l) (hla : ms.length = ra * ca) (hll : l.length = ca) (hln : ∀ s ∈ l, s.size = n) (hn : n ≤ 8192)
    (h1 : 1 ≤ ra) (h2 : ra ≤ 16) (h3 : 1 ≤ ca) (h4 : ca ≤ 16) (hka : na ≤ ka) (hka2 : ka ≤ 9223372036854775807) :
    CallsIn Fence.wide 10 Try.prog 44 #[matV (ra : Int) (ca : Int) (.slice (some ⟨ba, oa, none⟩) na ka), vl] w fun e w' =>
      ∃ r, e = .returned r ∧ w'.ownsRow w.heap.size 9 1 r ra ((applyL ms l ra ca n).map Value.string) ∧ Below w.heap.size w w' := by
  obtain ⟨i0, hi, hz0, hz1, hz2⟩ := info_parts infoStr6
  have hna : na = ra * ca := by obtain ⟨_, _, e⟩ := ha.shape; cases e; exact hla
  subst hna
  obtain ⟨Al, kl, rfl⟩ := hl.shape
  have HA := Lib.hid ha
  have HL := Lib.hid hl
  have HLN := Lib.hid hln
  have HLL := Lib.hid hll
  have hl0 : 0 < l.length := by omega
  have hmk := hmkM (n := n) (by omega)
  obtain ⟨C, hC⟩ : ∃ C, C = cellsOf8 (List.replicate n 0) := ⟨_, rfl⟩
  rw [← hC] at hmk
  have HC := Lib.hid hC
  have HMK := Lib.hid hmk
  clear hmk hC hl ha hln hll
  obtain ⟨oA, hoA⟩ : ∃ x, x = (Obj.cells #[.int .i64 (ra : Int), .int .i64 (ca : Int), .slice (some ⟨ba, oa, none⟩) (ra * ca) ka] 55) := ⟨_, rfl⟩
  obtain ⟨oL, hoL⟩ : ∃ x, x = (Obj.cells #[.slice Al l.length kl] 23) := ⟨_, rfl⟩
  obtain ⟨oO, hoO⟩ : ∃ x, x = (Obj.cells #[.slice none 0 0] 23) := ⟨_, rfl⟩
  have tA := Three.new w (.int .i64 (ra : Int)) (.int .i64 (ca : Int)) (.slice (some ⟨ba, oa, none⟩) (ra * ca) ka) 55
  rw [← hoA] at tA
  have tL := Boxed.new (w.alloc oA) 23 (.slice Al l.length kl)
  rw [World.size_alloc, ← hoL] at tL
  have tO := Boxed.new ((w.alloc oA).alloc oL) 23 (.slice none 0 0)
  rw [World.size_alloc, World.size_alloc, ← hoO] at tO
  have tI := Three.new (((w.alloc oA).alloc oL).alloc oO) (.int .i64 (ra : Int)) (.int .i64 (ca : Int)) (.slice (some ⟨ba, oa, none⟩) (ra * ca) ka) 55
  rw [World.size_alloc, World.size_alloc, World.size_alloc, ← hoA] at tI
  have TI := Lib.hid tI
  have TA := Lib.hid (((tA.alloc oL).alloc oO).alloc oA)
  have TL := Lib.hid ((tL.alloc oO).alloc oA)
  have TO := Lib.hid (tO.alloc oA)
  have HBE := Lib.hid (((((Below.refl w.heap.size w).alloc (Nat.le_refl _) oA).alloc (by simp) oL).alloc (by simp; omega) oO).alloc (by simp; omega) oA)
  have hsz : ((((w.alloc oA).alloc oL).alloc oO).alloc oA).heap.size = w.heap.size + 1 + 1 + 1 + 1 := by simp
  have hsz3 : (((w.alloc oA).alloc oL).alloc oO).heap.size = w.heap.size + 1 + 1 + 1 := by simp
  have HSZ3 := Lib.hid hsz3
  have HSZ := Lib.hid hsz
  obtain ⟨a0, a1, a2, _, _, _⟩ := (tA.alloc oL).alloc oO
  clear tA tL tO tI hsz hsz3
  unfold matV
  refine callsIn_of_wp_marks Try.func44 rfl trivial ?_ rfl
  simp only [Try.ntmps44, List.size_toArray, List.length_cons, List.length_nil, Nat.reduceAdd, Nat.reduceSub, Array.replicate_succ, Array.replicate_zero, List.push_toArray, List.append_toArray, List.nil_append, List.cons_append]
  rw [hoA, hoL, hoO] at a0 a1 a2
  gi_wp2_with (first | (refine ⟨trivial, ?_⟩; gi_at_call 58; refine (callsIn_wide.2 (rows_any (ra : Int) (ca : Int) (some ⟨ba, oa, none⟩) (ra * ca) ka _)).mono ?_; rintro e w' ⟨rfl, rfl⟩))
  rw [← hoA, ← hoL, ← hoO]
  clear a0 a1 a2
  generalize (((w.alloc oA).alloc oL).alloc oO).alloc oA = W3 at *
  clear hoA hoL hoO
  refine wpIn_rangeFunc_ownF (encs := encRow ba oa ca ka) rfl (by omega) (gf := 77) (lb := #[.pointer (some ⟨w.heap.size + 1 + 1 + 1, 0, none⟩)]) rfl trivial (enters_of Try.func77 (by kernel_rfl) rfl)
    (rows1_stops (w.heap.size + 1 + 1 + 1) ra ca ba oa (ra * ca) ka W3 (by rw [HSZ.out]; omega) TI.out h2 h4 h3 (Nat.le_refl _) hka hka2) keepsBox_t (keepsBox_b (by rw [HSZ.out]; omega)) (Below.refl _ _) (fun _ => rfl)
    (fun pre W => (Three W w.heap.size (.int .i64 (ra : Int)) (.int .i64 (ca : Int)) (.slice (some ⟨ba, oa, none⟩) (ra * ca) ka) ∧ Three W (w.heap.size + 1 + 1 + 1) (.int .i64 (ra : Int)) (.int .i64 (ca : Int)) (.slice (some ⟨ba, oa, none⟩) (ra * ca) ka) ∧ Boxed W (w.heap.size + 1) 23 (.slice Al l.length kl) ∧ ∃ v, Boxed W (w.heap.size + 1 + 1) 23 v ∧ W.ownsRow (w.heap.size + 1 + 1 + 1 + 1) 9 1 v pre.length (laneRows ms l ca n pre)) ∧ Below w.heap.size w W)
    (fun _ _ _ => False)
    (OwnFrom.and (fun s A A' row hs hg hr => ⟨three_grown hs.1 hg (fun r e => (hr r e).2), three_grown hs.2.1 hg (fun r e => (hr r e).2), boxed_grown hs.2.2.1 hg (fun r e => (hr r e).2), by obtain ⟨v, q1, q2⟩ := hs.2.2.2; exact ⟨v, boxed_grown q1 hg (fun r e => (hr r e).2), own_grown q2 hg (fun r e => (hr r e).2)⟩⟩) (ownFrom_below (Nat.le_refl _) (by have := HSZ.out; omega)))
    (fun _ s A A' row hs _ _ => hs)
    ⟨⟨TA.out, TI.out, TL.out, _, TO.out, World.ownsRow_nil _ _ _ _⟩, HBE.out⟩
    (fun x => { tmps := #[.agg #[.int .i64 (ra : Int), .int .i64 (ca : Int), .slice (some ⟨ba, oa, none⟩) (ra * ca) ka], .slice Al l.length kl, .pointer (some ⟨w.heap.size, 0, none⟩), .pointer (some ⟨w.heap.size + 1, 0, none⟩), .slice none 0 0, .pointer (some ⟨w.heap.size + 1 + 1, 0, none⟩), undef, .slice (some ⟨ba, oa + x.1 * ca, none⟩) ca (ka - x.1 * ca), undef, undef, undef, .agg #[.int .i64 (ra : Int), .int .i64 (ca : Int), .slice (some ⟨ba, oa, none⟩) (ra * ca) ka], .func (.func 77) #[] #[.pointer (some ⟨w.heap.size + 1 + 1 + 1, 0, none⟩)], .int .i64 (x.1 : Int), .slice (some ⟨ba, oa + x.1 * ca, none⟩) ca (ka - x.1 * ca), undef, undef, undef, undef, undef, undef, undef, undef, undef, undef, undef, undef, undef, undef, undef, undef, undef, undef, undef, undef, undef, undef, undef, undef, undef, undef], defers := [] }) ?assign ?body ?done ?stop
  case assign =>
    intro l x W K hK
    gi_wp2
    exact hK
  case body =>
    rintro lv pre x W ⟨⟨ta, ti, tl, v, tz, hown⟩, hbe⟩ _
    obtain ⟨x, hx⟩ := x
    have l0 := tl.cell
    obtain ⟨bl, ol, rfl, hbl, hcell⟩ := (HL.out.below hbe).at_ hl0
    rw [Nat.add_zero] at hcell
    obtain ⟨s0, hs0⟩ : ∃ s0, s0 = l[0]'hl0 := ⟨_, rfl⟩
    rw [← hs0] at hcell
    have hs0n : s0.size = n := by rw [hs0]; exact HLN.out _ (List.getElem_mem _)
    have i1 : (0 : Int) < (l.length : Int) := by omega
    clear hs0
    have hmk := HMK.out
    have hoff : oa + x * ca + ca ≤ oa + ra * ca := by have := Nat.mul_le_mul_right ca hx; rw [Nat.succ_mul] at this; omega
    have hla2 : x * ca + ca ≤ ra * ca := by omega
    obtain ⟨X, hX⟩ : ∃ X, X = W.heap.size := ⟨_, rfl⟩
    have hD0 : BytesBlk (W.alloc (.cells C 5)) W.heap.size (bytesOf (rowLane ms l ca n x 0)) := by
      rw [rowLane_zero, bytes_zeroN, HC.out]; exact bytesBlk_new W (ns := List.replicate n 0) rfl _ (by intro y hy; rw [List.eq_of_mem_replicate hy]; decide)
    have hbV : Below w.heap.size w (W.alloc (.cells C 5)) := hbe.alloc hbe.size _
    have HKV := Lib.hid (KeepsOthers.alloc W (.cells C 5))
    have hXV : W.heap.size < (W.alloc (.cells C 5)).heap.size := by simp
    have HTA := Lib.hid (ta.alloc (.cells C 5))
    have HTI := Lib.hid (ti.alloc (.cells C 5))
    have HTL := Lib.hid (tl.alloc (.cells C 5))
    have HTZ := Lib.hid (tz.alloc (.cells C 5))
    have HOW := Lib.hid hown
    have HVX : Hid ((W.alloc (.cells C 5)).heap[X]? = some (.cells C 5)) := by rw [hX]; exact World.alloc_heap_new W _
    have HBW : Hid (Below W.heap.size W (W.alloc (.cells C 5))) := (Below.refl _ _).alloc (Nat.le_refl _) _
    have HXW := Lib.hid hX
    have HKB : Hid (KeepsBox (w.heap.size + 1 + 1 + 1) W (W.alloc (.cells C 5))) := ⟨by simp, Below.heap_alloc _ _ _ (by have := cell_block ti.c0; exact this)⟩
    rw [← hX] at hD0 hXV
    have hwX : w.heap.size + 1 + 1 + 1 + 1 ≤ X := by have := cell_block ti.c0; dsimp only at this; omega
    gi_wp2
    rw [← hX]
    have HD0 := Lib.hid hD0
    have HBV := Lib.hid hbV
    clear hmk hcell l0 i1 hs0n ta ti tl tz hown hbe hbV hD0 hX HC
    generalize W.alloc (.cells C 5) = V at *
    gi_loopw [9, 10, 22] (fun _ _ i wr => ∃ k : Nat, i = .int .i64 k ∧ k ≤ ca ∧ Hid (BytesBlk wr X (bytesOf (rowLane ms l ca n x k))) ∧ Hid (Kept (fun j => j = X) V wr)) (fun _ _ i _ => ca - (intOf i).toNat)
    case atStart => exact ⟨0, rfl, by omega, HD0, Lib.hid (Kept.refl _ _)⟩
    case round =>
      obtain ⟨k, rfl, hk, HD, HK⟩ := hrel
      by_cases hkc : k < ca
      · have hbr := HBV.out.trans (HK.out.below HBV.out.size (fun j hj e => by omega))
        have l0 := Boxed.cell (boxed_keptM (p := fun j => j = X) HTL.out HK.out (by omega))
        have hkl : k < l.length := by rw [HLL.out]; exact hkc
        obtain ⟨bl', ol', eA, _, hlc⟩ := (HL.out.below hbr).at_ hkl
        cases eA
        obtain ⟨ba', oa', e, _, hcell⟩ := (HA.out.below hbr).at_ (k := x * ca + k) (by rw [hla]; omega)
        cases e
        rw [← Nat.add_assoc] at hcell
        have hcc := HA.out.lt (x * ca + k)
        have HNX := Lib.hid (rowLane_succ ms l ca n x k)
        have hsn : (l[k]'hkl).size = n := HLN.out _ (List.getElem_mem _)
        rw [← List.getElem_eq_getD (h := hkl)] at HNX
        generalize l[k]'hkl = sk at *
        have hrs := rowLane_size ms l ca n x k
        obtain ⟨cur, hcur⟩ : ∃ cur, cur = rowLane ms l ca n x k := ⟨_, rfl⟩
        rw [← hcur] at hrs HNX HD
        generalize ms.getD (x * ca + k) 0 = cc at *
        have HIN : Hid (bytesOf (rowLane ms l ca n x (k + 1)) = intoL sk cc 0 n (bytesOf cur)) := by rw [Hid, HNX.out, ← intoL_bytes, hrs]
        have i2 : (0 : Int) ≤ (k : Int) := by omega
        have i3 : (k : Int) < (ca : Int) := by omega
        have i4 : (k : Int) < (l.length : Int) := by omega
        have hXr : X < wr.heap.size := Nat.lt_of_lt_of_le hXV HK.out.size
        have hbl := bytesOf_length cur
        gi_wp2
        refine ⟨trivial, ?_⟩
        refine (CallsIn.inRound _ (callsIn_wide.2 (into_any X 0 n n (bytesOf cur) sk cc wr HD.out hXr (by omega) (by omega) (by omega) (by omega) hcc))).mono ?_
        rintro e W3 ⟨rfl, hd, hkk⟩
        rw [← HIN.out] at hd
        have HD3 := Lib.hid hd
        have HK3 := Lib.hid (HK.out.trans hkk)
        clear hd hkk HD HK hbr l0 hlc hcell
        gi_wp2
        go_roundw
        case rel => exact ⟨k + 1, by go_num, by omega, HD3, HK3⟩
        case measure => simp [intOf]; omega
      · have hke : k = ca := by omega
        have H1 := HD.out
        rw [hke] at H1
        have hrs := rowLane_size ms l ca n x ca
        have HSN := Lib.hid (laneRows_snoc ms l ca n pre ⟨x, hx⟩)
        obtain ⟨cur, hcur⟩ : ∃ cur, cur = rowLane ms l ca n x ca := ⟨_, rfl⟩
        have HCUR := Lib.hid hcur
        dsimp only at HSN
        rw [← hcur] at H1 hrs HSN
        have hcv := convert_bytes (P := Try.prog) (w := wr) (b := X) (off := 0) (cap := n) (ns := bytesOf cur) Try.underlying35 Try.underlying5 Try.underlying9 (BytesBlk.cells H1)
        rw [bytesOf_length, hrs, strOf8_bytesM] at hcv
        clear H1 hke hcur
        have hbr := HBV.out.trans (HK.out.below HBV.out.size (fun j hj e => by omega))
        have tz := boxed_keptM (p := fun j => j = X) HTZ.out HK.out (by omega)
        have z0 := tz.cell
        have hown := own_below HOW.out (HBW.out.trans (HK.out.below HBW.out.size (fun j hj e => by have := HXW.out; omega)))
        have hwrs : w.heap.size + 1 + 1 + 1 + 1 ≤ wr.heap.size := by have := HK.out.size; omega
        have hpl : pre.length ≤ 16 := by omega
        gi_wp2_with (first | (gi_at_builtin; refine wpListIn_append_own _ rfl _ _ 23 rfl (w.heap.size + 1 + 1 + 1 + 1) 9 i0 (.string ByteArray.empty) 1 16 Try.underlying23 hi hz0 hz1 hz2 rfl (by decide) _ _ _ rfl (hown.alloc _) ⟨wr.heap.size, 0, none⟩ 1 1 [.string cur] rfl rfl (cell_one_new' _ _ _) (by simp [Value.oneCell']) (by unfold maxLen; omega) (by omega) (by simp; omega) ?_; intro v' w1 hown' hgrow _; obtain ⟨g', cap', rfl⟩ := ownsRow_succ hown'; obtain ⟨hv1, hv2, hr2, hk2, hb2⟩ := Boxed.appended tz (by decide) (own_base hown (by omega : w.heap.size ≤ w.heap.size + 1 + 1 + 1 + 1)) hbr.size (by omega) (own_base hown' (by omega : w.heap.size ≤ w.heap.size + 1 + 1 + 1 + 1)) hgrow; have hb4 := app_belowB hwrs hown hgrow; have hc1 := hv1.cell; have hf1 := hv1.frozen))
        have kT : ∀ B, B < w.heap.size + 1 + 1 + 1 + 1 → B ≠ w.heap.size + 1 + 1 → (w1.setCell ⟨w.heap.size + 1 + 1, 0, none⟩ (.slice (some ⟨g', 0, none⟩) (pre.length + 1) cap')).heap[B]? = V.heap[B]? := fun B h1 h2 => by
          rw [Below.heap_setCell _ _ _ _ (by dsimp only; omega), hb4.block B h1, HK.out.block B (by omega) (by omega)]
        refine ⟨HKV.out.trans ((keepsOthers_at HK.out HVX.out rfl).trans hk2), ⟨?_, ?_⟩, ⟨three_of HTA.out (kT _ (by omega) (by omega)), three_of HTI.out (kT _ (by omega) (by omega)), (kT _ (by omega) (by omega)).trans HTL.out, _, hv2, ?_⟩, hbr.trans hb2⟩
        · exact Nat.le_trans HKV.out.size (Nat.le_trans HK.out.size hb2.size)
        · exact (kT _ (by omega) (by omega)).trans HKB.out.2
        · have := own_cell hown' (d := ⟨w.heap.size + 1 + 1, 0, none⟩) (u := .slice (some ⟨g', 0, none⟩) (pre.length + 1) cap') (by dsimp only; omega)
          rw [HSN.out, List.length_append]
          exact this
  case done =>
    rintro D xs W hD rfl ⟨⟨ta, ti, tl, v, tz, hown⟩, hbe⟩ hK
    have hc := tz.cell
    rw [laneRows_all, finL_length] at hown
    gi_wp2
    refine ⟨by simp, .inl ⟨_, _, rfl, run_takeDeferred hK, ?_⟩⟩
    exact ⟨_, results_tmp rfl _ _ _, v, rfl, own_base (ownsRow_putObj hown _ hK rfl) (by omega), hbe.trans (belowK_b (w := W3) (by have := HBE.out.size; omega) W D _ _ hD hK rfl rfl)⟩
  case stop =>
    rintro D c pre W _ _ h _
    exact h.elim
end Go.Proofs.Ytijcmdcjjcemfaa

/- Marks among a frame's deferred calls; what a range over rows keeps. -/

namespace Go.Proofs.Ytijcmdcjjcemfaa
open Go.ChangeShapes Go.WideShapes Go.ChangeAt Go.RowKit Go.Joins Go.Shelf
set_option linter.unusedVariables false
set_option linter.unusedSimpArgs false

/-- The deferred calls are marks of loops that are over, each block open, from b on. -/
def Marks (b : Nat) (dl : List Deferred) (W : World) : Prop := ∃ Ds : List Nat, dl = Ds.map (fun D => { target := .collected D, args := #[] }) ∧ Ds.Nodup ∧ ∀ D ∈ Ds, b ≤ D ∧ W.heap[D]? = some (.deferred (some []))
theorem Marks.nil (b : Nat) (W : World) : Marks b [] W := ⟨[], rfl, List.nodup_nil, fun _ h => by cases h⟩
theorem Marks.kept {b : Nat} {dl : List Deferred} {W W' : World} {p : Nat → Prop} (h : Marks b dl W) (k : Kept p W W') (hp : ∀ D, b ≤ D → ¬ p D) : Marks b dl W' := by
  obtain ⟨Ds, e, hn, h⟩ := h
  refine ⟨Ds, e, hn, fun D hD => ⟨(h D hD).1, ?_⟩⟩
  rw [k.block D (Array.getElem?_eq_some_iff.1 (h D hD).2).1 (hp D (h D hD).1)]
  exact (h D hD).2
/-- One loop more. The blocks of the elder marks lie below c. -/
theorem Marks.cons {b : Nat} {dl : List Deferred} {W V : World} {D : Nat} (h : Marks b dl W) (hV : Marks b dl V) (hD : b ≤ D) (hDV : V.heap.size ≤ D) (hh : W.heap[D]? = some (.deferred (some []))) : Marks b ({ target := .collected D, args := #[] } :: dl) W := by
  obtain ⟨Ds, rfl, hn, h⟩ := h
  obtain ⟨Es, e, _, hE⟩ := hV
  have he : Es = Ds := by
    have hi : ∀ (l m : List Nat), l.map (fun D => ({ target := .collected D, args := #[] } : Deferred)) = m.map (fun D => { target := .collected D, args := #[] }) → m = l := by
      intro l
      induction l with
      | nil => intro m h; cases m with
        | nil => rfl
        | cons y m => simp at h
      | cons x l ih => intro m h; cases m with
        | nil => simp at h
        | cons y m =>
          simp only [List.map_cons, List.cons.injEq] at h
          have h1 : x = y := by have := h.1; simpa using this
          rw [ih m h.2, h1]
    exact hi Ds Es e
  subst he
  refine ⟨D :: Es, rfl, List.nodup_cons.2 ⟨fun hm => ?_, hn⟩, fun E hm => ?_⟩
  · have := (Array.getElem?_eq_some_iff.1 (hE D hm).2).1
    omega
  · rcases List.mem_cons.1 hm with rfl | hm
    · exact ⟨hD, hh⟩
    · exact h E hm
/-- A frame leaves with marks alone. -/
theorem leaves_marks {F : Fence} {n : Nat} {P : Program} {fn : Func} {tmps : Array Value} {R : Ending → World → Prop} {b : Nat} : ∀ (Ds : List Nat) (W : World), Ds.Nodup → (∀ D ∈ Ds, b ≤ D ∧ W.heap[D]? = some (.deferred (some []))) → (∀ W', Below b W W' → LeavesIn F n P fn tmps R [] .returning W') →
    LeavesInM F n P fn tmps R (Ds.map (fun D => { target := .collected D, args := #[] })) .returning W
  | [], W, _, _, hR => hR W (Below.refl _ _)
  | D :: Ds, W, hn, h, hR => by
    have hD := h D (by simp)
    have hl := (Array.getElem?_eq_some_iff.1 hD.2).1
    have hb : Below b W (W.putObj D (.deferred none)) := (Below.refl b W).grown (grownBy_putObj' W D _) (by omega) (fun k e => by cases e; exact hD.1)
    refine ⟨by simp, .inl ⟨D, W.putObj D (.deferred none), rfl, run_takeDeferred hD.2, ?_⟩⟩
    refine leaves_marks Ds _ (List.nodup_cons.1 hn).2 (fun E hE => ⟨(h E (List.mem_cons_of_mem _ hE)).1, ?_⟩) (fun W' h' => hR W' (hb.trans h'))
    have hne : E ≠ D := fun e => (List.nodup_cons.1 hn).1 (e ▸ hE)
    rw [World.putObj_heap_other hne]
    exact (h E (List.mem_cons_of_mem _ hE)).2
theorem Marks.leave {F : Fence} {n : Nat} {P : Program} {fn : Func} {tmps : Array Value} {R : Ending → World → Prop} {b : Nat} {dl : List Deferred} {W : World} (h : Marks b dl W) (hR : ∀ W', Below b W W' → ∃ v, (results fn tmps).run P W' = .ok v W' ∧ R (.returned v) W') : LeavesInM F n P fn tmps R dl .returning W := by
  obtain ⟨Ds, rfl, hn, h⟩ := h
  exact leaves_marks Ds W hn h hR

theorem ownFrom_kept {β : Type} {p : Nat → Prop} {w0 : World} {B : Nat} (hB : w0.heap.size ≤ B) : OwnFrom B (fun (_ : β) W => Kept p w0 W) := fun s W W' row h hg hr =>
  ⟨hg.os.trans h.os, hg.tape.trans h.tape, hg.output.trans h.output, Nat.le_trans h.size hg.size, fun k hk hp => by
    rw [hg.block k (Nat.lt_of_lt_of_le hk h.size) (fun e => by have := (hr k e.symm).1; omega)]; exact h.block k hk hp⟩
theorem keepsOthers_two {W W' : World} {X Y : Nat} (h : Kept (fun k => k = X ∨ k = Y) W W') {u v : Value} {i j : Nat} (hx : W.cell? ⟨X, i, none⟩ = some u) (hy : W.cell? ⟨Y, j, none⟩ = some v) : KeepsOthers W W' :=
  ⟨h.size, fun k ob hk ho => by
    have hkX : ¬ (k = X ∨ k = Y) := fun e => by
      rcases e with rfl | rfl
      · obtain ⟨ob', h1, h2⟩ := cells_of_cell hx
        rw [hk] at h1; cases h1; rw [h2] at ho; cases ho
      · obtain ⟨ob', h1, h2⟩ := cells_of_cell hy
        rw [hk] at h1; cases h1; rw [h2] at ho; cases ho
    rw [h.block k (Array.getElem?_eq_some_iff.1 hk).1 hkX]; exact hk⟩

/-- Rows cleared in the order in which they come. -/
def clrF (ca co c rank : Nat) {ra : Nat} (S : List Nat × List Nat) (pre : List (Fin ra)) : List Nat × List Nat := pre.foldl (fun S k => clrStep ca co c rank S k.1) S
theorem clrF_snoc (ca co c rank : Nat) {ra : Nat} (S : List Nat × List Nat) (pre : List (Fin ra)) (i : Fin ra) : clrF ca co c rank S (pre ++ [i]) = clrStep ca co c rank (clrF ca co c rank S pre) i.1 := by rw [clrF, List.foldl_append]; rfl
theorem clrF_all (ca co c rank ra : Nat) (S : List Nat × List Nat) : clrF ca co c rank S (finL ra ra (Nat.le_refl ra)) = clrAll ca co c rank ra S := by
  rw [clrAll, ← finL_val ra ra (Nat.le_refl ra), List.foldl_map]; rfl
theorem clrF_length (ca co c rank : Nat) {ra : Nat} (S : List Nat × List Nat) (pre : List (Fin ra)) : (clrF ca co c rank S pre).1.length = S.1.length ∧ (clrF ca co c rank S pre).2.length = S.2.length := by
  have h : ∀ (pre : List (Fin ra)) (S : List Nat × List Nat), (pre.foldl (fun S k => clrStep ca co c rank S k.1) S).1.length = S.1.length ∧ (pre.foldl (fun S k => clrStep ca co c rank S k.1) S).2.length = S.2.length := by
    intro pre
    induction pre with
    | nil => intro S; exact ⟨rfl, rfl⟩
    | cons i pre ih => intro S; rw [List.foldl_cons]; exact ⟨(ih _).1.trans (clrStep_length _ _ _ _ _ _).1, (ih _).2.trans (clrStep_length _ _ _ _ _ _).2⟩
  exact h pre S
end Go.Proofs.Ytijcmdcjjcemfaa
