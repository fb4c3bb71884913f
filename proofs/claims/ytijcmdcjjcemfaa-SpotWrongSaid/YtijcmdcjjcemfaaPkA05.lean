/- A drawn region within a round of a range over a function, walked as anywhere. -/
import Derived.Test.YtijcmdcjjcemfaaPkA04
import Derived.OrdersIn
import Derived.OrdersHeld
import Derived.Deep.RegionHeld
namespace Go.Proofs.Ytijcmdcjjcemfaa
open Go.ChangeShapes Go.WideShapes Go.ChangeAt Go.RowKit Go.Joins Go.Shelf
set_option linter.unusedVariables false
set_option linter.unusedSimpArgs false

/-- A region's end, and no other way out. -/
def OnlyEnd (M : Act → World → Prop) : Exit → Act → World → Prop := fun e a w => e = .normal ∧ M a w
theorem onlyEnd_out {M : Act → World → Prop} (h : LetsOut (OnlyEnd M)) : False := by
  obtain ⟨a, w, h, _⟩ := h
  cases h

theorem onlyEnd_panic {M : Act → World → Prop} {c : _} {a a' : Act} {w : World} (h : OnlyEnd M (.panic c) a w) : OnlyEnd M (.panic c) a' w := by cases h.1
theorem rowsIn_of {l m : Nat} {P : Program} {row : String} {args : Array Value} {w : World} {R : Value → World → Prop} (h : Rows P row args w R) : RowsIn (Fence.wide.inRound l) m P row args w R :=
  fun c cs _ => let ⟨v, w', r, s⟩ := h c cs; ⟨v, w', r, stepsIn_wide.2 s⟩

theorem wpOpIn_of {l n : Nat} {P : Program} {ops : Array Oper} {M : Act → World → Prop} {Q : Exit → Act → World → Prop} (hdef : ∀ (i : Nat) (o : Oper), ops[i]? = some o → ∀ c : Call, o.op ≠ Op.defer c) (hn : 1 ≤ n)
    {i : Nat} {K K' : Act → World → Prop} {a : Act} {w : World} (hK : ∀ a w, K a w → K' a w) (h : wpOp P ops (OnlyEnd M) i K a w) : wpOpIn (Fence.wide.inRound l) n P ops Q i K' a w := by
  unfold wpOp at h
  unfold wpOpIn
  split
  · rename_i ho
    rw [ho] at h
    exact hK _ _ h
  · rename_i o ho
    rw [ho] at h
    simp only at h
    split
    · rename_i hw
      rw [if_pos hw] at h
      rcases h with h | h
      · unfold Oper.wp at h
        refine ⟨fun f _ => trivial, ?_⟩
        have hs : Oper.semAt (Fence.wide.inRound l).round a.eval o = execOp a.eval o := Oper.semAt_some l a.eval o (hdef i o ho)
        rw [hs]
        generalize (execOp a.eval o).run P w = r at h
        cases r with
        | ok x w' =>
          cases x <;> simp only [Oper.upon] at h <;> simp only [Oper.uponIn]
          case value v => exact hK _ _ h
          case skip => exact hK _ _ h
          case defer d => exact hK _ _ h
          case enter f args =>
            refine ⟨fun _ => hn, (CallsIn.inRound l (callsIn_wide.2 h)).mono ?_⟩
            intro e w'' he
            cases e with
            | returned v => exact hK _ _ he
            | panicked chain => cases he.1
            | outgrown => exact (onlyEnd_out he).elim
          case row r args => exact ⟨fun _ => hn, RowsIn.mono (rowsIn_of h) (fun _ _ h' => hK _ _ h')⟩
        | halt x w' =>
          cases x <;> simp only [Oper.upon] at h <;> simp only [Oper.uponIn]
          case panic v => cases h.1
      · exact (onlyEnd_out h.2).elim
    · rename_i hw
      rw [if_neg hw] at h
      exact ⟨fun f _ => trivial, hK _ _ h⟩

theorem wpAnyIn_of {l n : Nat} {P : Program} {ops : Array Oper} {md : Region.Mode} {M : Act → World → Prop} {Q : Exit → Act → World → Prop} (hdef : ∀ (i : Nat) (o : Oper), ops[i]? = some o → ∀ c : Call, o.op ≠ Op.defer c) (hn : 1 ≤ n) (hQ : ∀ a w, M a w → Q .normal a w) :
    ∀ (fuel : Nat) (listed : Array Bool) (a : Act) (w : World), wpAny P md ops (OnlyEnd M) fuel listed a w → wpAnyIn (Fence.wide.inRound l) n P md ops Q fuel listed a w
  | 0, _, _, _, h => ⟨h.1, hQ _ _ h.2.2⟩
  | fuel + 1, listed, a, w, h => ⟨fun h0 => hQ _ _ (h.1 h0).2, fun i hi => wpOpIn_of hdef hn (fun a' w' h' => wpAnyIn_of hdef hn hQ fuel _ a' w' h') (h.2 i hi)⟩

def noDefer (ops : Array Oper) : Bool := ops.toList.all fun o => match o.op with | .defer _ => false | _ => true
theorem noDefer_of {ops : Array Oper} (h : noDefer ops = true) : ∀ (i : Nat) (o : Oper), ops[i]? = some o → ∀ c : Call, o.op ≠ Op.defer c := fun i o ho c e => by
  have hm : o ∈ ops.toList := by
    obtain ⟨hi, hx⟩ := Array.getElem?_eq_some_iff.1 ho
    rw [← hx]
    exact Array.getElem_mem_toList hi
  have := List.all_eq_true.1 h o hm
  simp only [e] at this
  cases this
end Go.Proofs.Ytijcmdcjjcemfaa

/- matrix.Times, walked. -/

namespace Go.Proofs.Ytijcmdcjjcemfaa
open Go.ChangeShapes Go.WideShapes Go.ChangeAt Go.RowKit Go.Joins Go.Shelf
set_option linter.unusedVariables false
set_option linter.unusedSimpArgs false
attribute [local go_sem] Oper.semAt_some

theorem Three.drew {w : World} {B : Nat} {a b c : Value} (h : Three w B a b c) : Three w.drew B a b c := ⟨h.c0, h.c1, h.c2, h.f0, h.f1, h.f2⟩
theorem Three.kept {p : Nat → Prop} {w w' : World} {B : Nat} {a b c : Value} (h : Three w B a b c) (k : Kept p w w') (hp : ¬ p B) : Three w' B a b c := by
  have hl := cell_block h.c0
  exact ⟨by rw [k.cell (d := ⟨B, 0, none⟩) hl hp]; exact h.c0, by rw [k.cell (d := ⟨B, 1, none⟩) hl hp]; exact h.c1, by rw [k.cell (d := ⟨B, 2, none⟩) hl hp]; exact h.c2,
    by rw [k.frozen (d := ⟨B, 0, none⟩) hl hp]; exact h.f0, by rw [k.frozen (d := ⟨B, 1, none⟩) hl hp]; exact h.f1, by rw [k.frozen (d := ⟨B, 2, none⟩) hl hp]; exact h.f2⟩
theorem keepsOthers_of {W W' : World} {X : Nat} (h : Kept (fun k => k = X) W W') {v : Value} {o : Nat} (hc : W.cell? ⟨X, o, none⟩ = some v) : KeepsOthers W W' :=
  ⟨h.size, fun k ob hk ho => by
    have hkX : k ≠ X := fun e => by
      subst e
      obtain ⟨ob', h1, h2⟩ := cells_of_cell hc
      rw [hk] at h1
      cases h1
      rw [h2] at ho; cases ho
    have hl : k < W.heap.size := (Array.getElem?_eq_some_iff.1 hk).1
    rw [h.block k hl hkX]; exact hk⟩
/-- A row of bytes as a text. -/
theorem row_text {w : World} {b o n k : Nat} {bs : List Nat} {c i cap : Nat} (h : BytesV w (.slice (some ⟨b, o, none⟩) n k) bs) (hi : (i + 1) * c ≤ bs.length) :
    (convert 35 9 (.slice (some ⟨b, o + i * c, none⟩) c cap)).run Try.prog w = .ok (.string (rowS bs c i)) w := by
  have hl := rowN_length hi
  have := convert_bytes (P := Try.prog) (w := w) (b := b) (off := o + i * c) (cap := cap) (ns := rowN bs c i) Try.underlying35 Try.underlying5 Try.underlying9 (fun j hj => by
    rw [hl] at hj
    have hj2 : i * c + j < bs.length := by rw [Nat.add_mul, Nat.one_mul] at hi; omega
    obtain ⟨b', o', e, _, hc⟩ := h.at_ hj2
    cases e
    rw [rowN_get hj, Nat.add_assoc]
    exact hc)
  rw [hl] at this
  exact this

set_option maxRecDepth 100000 in
set_option maxHeartbeats 4000000 in
theorem times_in (ra ca cb : Nat) (ba oa na ka bb ob nb kb : Nat) (ms bs : List Nat) (w : World)
    (ha : BytesV w (.slice (some ⟨ba, oa, none⟩) na ka) ms) (hb : BytesV w (.slice (some ⟨bb, ob, none⟩) nb kb) bs) (hla : ms.length = ra * ca) (hlb : bs.length = ca * cb)
    (h1 : 1 ≤ ra) (h2 : ra ≤ 16) (h3 : 1 ≤ ca) (h4 : ca ≤ 16) (h5 : 1 ≤ cb) (h6 : cb ≤ 16) (hka : na ≤ ka) (hkb : nb ≤ kb) (hka2 : ka ≤ 9223372036854775807) (hkb2 : kb ≤ 9223372036854775807) :
    CallsIn Fence.wide 10 Try.prog 56 #[matV (ra : Int) (ca : Int) (.slice (some ⟨ba, oa, none⟩) na ka), matV (ca : Int) (cb : Int) (.slice (some ⟨bb, ob, none⟩) nb kb)] w fun e W' =>
      ∃ B, w.heap.size ≤ B ∧ B < W'.heap.size ∧ e = .returned (matV (ra : Int) (cb : Int) (.slice (some ⟨B, 0, none⟩) (ra * cb) (ra * cb))) ∧ BytesBlk W' B (timesL ms bs ra ca cb) ∧ Below w.heap.size w W' := by
  have hna : na = ra * ca := by obtain ⟨_, _, e⟩ := ha.shape; cases e; exact hla
  have hnb : nb = ca * cb := by obtain ⟨_, _, e⟩ := hb.shape; cases e; exact hlb
  subst hna hnb
  have HA := Lib.hid ha
  have HB := Lib.hid hb
  obtain ⟨oA, hoA⟩ : ∃ x, x = (Obj.cells #[.int .i64 (ra : Int), .int .i64 (ca : Int), .slice (some ⟨ba, oa, none⟩) (ra * ca) ka] 55) := ⟨_, rfl⟩
  obtain ⟨oB, hoB⟩ : ∃ x, x = (Obj.cells #[.int .i64 (ca : Int), .int .i64 (cb : Int), .slice (some ⟨bb, ob, none⟩) (ca * cb) kb] 55) := ⟨_, rfl⟩
  obtain ⟨oR, hoR⟩ : ∃ x, x = (Obj.cells #[.int .i64 0, .int .i64 0, .slice none 0 0] 55) := ⟨_, rfl⟩
  have tB : Three (((w.alloc oA).alloc oB).alloc oR) (w.heap.size + 1) (.int .i64 (ca : Int)) (.int .i64 (cb : Int)) (.slice (some ⟨bb, ob, none⟩) (ca * cb) kb) := by
    have := Three.new (w.alloc oA) (.int .i64 (ca : Int)) (.int .i64 (cb : Int)) (.slice (some ⟨bb, ob, none⟩) (ca * cb) kb) 55
    rw [World.size_alloc, ← hoB] at this
    exact this.alloc _
  have tR : Three (((w.alloc oA).alloc oB).alloc oR) (w.heap.size + 1 + 1) (.int .i64 0) (.int .i64 0) (.slice none 0 0) := by
    have := Three.new ((w.alloc oA).alloc oB) (.int .i64 0) (.int .i64 0) (.slice none 0 0) 55
    rw [World.size_alloc, World.size_alloc, ← hoR] at this
    exact this
  have tA : Three (((w.alloc oA).alloc oB).alloc oR) w.heap.size (.int .i64 (ra : Int)) (.int .i64 (ca : Int)) (.slice (some ⟨ba, oa, none⟩) (ra * ca) ka) := by
    have := Three.new w (.int .i64 (ra : Int)) (.int .i64 (ca : Int)) (.slice (some ⟨ba, oa, none⟩) (ra * ca) ka) 55
    rw [← hoA] at this
    exact (this.alloc _).alloc _
  have hbe : Below w.heap.size w (((w.alloc oA).alloc oB).alloc oR) := (((Below.refl w.heap.size w).alloc (Nat.le_refl _) oA).alloc (by simp) oB).alloc (by simp; omega) oR
  have hsz : (((w.alloc oA).alloc oB).alloc oR).heap.size = w.heap.size + 1 + 1 + 1 := by simp
  have TA := Lib.hid tA
  have TB := Lib.hid tB
  have TR := Lib.hid tR
  have HBE := Lib.hid hbe
  have HSZ := Lib.hid hsz
  clear tA tB tR hbe hsz ha hb
  unfold matV
  refine callsIn_of_wp_marks Try.func56 rfl trivial ?_ rfl
  simp only [Try.ntmps56, List.size_toArray, List.length_cons, List.length_nil, Nat.reduceAdd, Nat.reduceSub, Array.replicate_succ, Array.replicate_zero, List.push_toArray, List.append_toArray, List.nil_append, List.cons_append]
  gi_wp2
  rw [← hoA, ← hoB, ← hoR]
  generalize ((w.alloc oA).alloc oB).alloc oR = W0 at *
  clear hoA hoB hoR
  refine ⟨trivial, ?_⟩
  refine (callsIn_wide.2 (empty_any ra cb _ h2 h6)).mono ?_
  rintro e W1 ⟨X, hX1, hX2, rfl, hblk, hbe⟩
  rw [HSZ.out] at hX1
  have HBE1 := Lib.hid (cum2 HBE.out hbe)
  have TA1 := Lib.hid (TA.out.below hbe)
  have TB1 := Lib.hid (TB.out.below hbe)
  have TR1 := Lib.hid (TR.out.below hbe)
  have HBLK := Lib.hid hblk
  obtain ⟨oX, hoX⟩ : ∃ x, x = (Obj.cells #[.int .i64 (ra : Int), .int .i64 (cb : Int), .slice (some ⟨X, 0, none⟩) (ra * cb) (ra * cb)] 55) := ⟨_, rfl⟩
  obtain ⟨oI, hoI⟩ : ∃ x, x = (Obj.cells #[.int .i64 (ra : Int), .int .i64 (ca : Int), .slice (some ⟨ba, oa, none⟩) (ra * ca) ka] 55) := ⟨_, rfl⟩
  have tX2 := Three.new W1 (.int .i64 (ra : Int)) (.int .i64 (cb : Int)) (.slice (some ⟨X, 0, none⟩) (ra * cb) (ra * cb)) 55
  rw [← hoX] at tX2
  have tA2 := TA1.out.alloc oX
  have TX3 := Lib.hid (tX2.alloc oI)
  have TB3 := Lib.hid ((TB1.out.alloc oX).alloc oI)
  have TR3 := Lib.hid ((TR1.out.alloc oX).alloc oI)
  have tI3 := Three.new (W1.alloc oX) (.int .i64 (ra : Int)) (.int .i64 (ca : Int)) (.slice (some ⟨ba, oa, none⟩) (ra * ca) ka) 55
  rw [World.size_alloc, ← hoI] at tI3
  have TI3 := Lib.hid tI3
  have hb13 : Below W1.heap.size W1 ((W1.alloc oX).alloc oI) := ((Below.refl W1.heap.size W1).alloc (Nat.le_refl _) oX).alloc (by simp) oI
  have HBLK3 := Lib.hid (blk_below hblk hX2 hb13)
  have HBE3 := Lib.hid (cum2 HBE1.out hb13)
  have hbn : W1.heap.size + 1 < ((W1.alloc oX).alloc oI).heap.size := by simp
  rw [hoX] at tA2
  obtain ⟨a0, a1, a2, a3, a4, a5⟩ := tA2
  clear a3 a4 a5
  unfold matV
  clear hbe hblk TA TB TR HBE HSZ tX2 tI3 hb13 HBLK
  gi_wp2_with (first | (refine ⟨trivial, ?_⟩; gi_at_call 58; refine (callsIn_wide.2 (rows_any (ra : Int) (ca : Int) (some ⟨ba, oa, none⟩) (ra * ca) ka _)).mono ?_; rintro e w' ⟨rfl, rfl⟩))
  rw [← hoX, ← hoI]
  clear a0 a1 a2
  generalize (W1.alloc oX).alloc oI = W3 at *
  clear hoX hoI TA1 TB1 TR1 HBE1
  generalize W1.heap.size = Bx at *
  have hrc : ra * cb ≤ 16 * 16 := Nat.mul_le_mul h2 h6
  refine wpIn_rangeFunc_ownF (encs := encRow ba oa ca ka) rfl (by omega) (gf := 77) (lb := #[.pointer (some ⟨Bx + 1, 0, none⟩)]) rfl trivial (enters_of Try.func77 (by kernel_rfl) rfl)
    (rows1_stops (Bx + 1) ra ca ba oa (ra * ca) ka W3 hbn TI3.out h2 h4 h3 (Nat.le_refl _) hka hka2) keepsBox_t (keepsBox_b hbn) (Below.refl _ _) (fun _ => rfl)
    (fun pre W => (BytesBlk W X (timesF ms bs ra ca cb pre) ∧ Three W Bx (.int .i64 (ra : Int)) (.int .i64 (cb : Int)) (.slice (some ⟨X, 0, none⟩) (ra * cb) (ra * cb)) ∧ Three W (w.heap.size + 1) (.int .i64 (ca : Int)) (.int .i64 (cb : Int)) (.slice (some ⟨bb, ob, none⟩) (ca * cb) kb) ∧ Three W (w.heap.size + 1 + 1) (.int .i64 0) (.int .i64 0) (.slice none 0 0) ∧ Three W (Bx + 1) (.int .i64 (ra : Int)) (.int .i64 (ca : Int)) (.slice (some ⟨ba, oa, none⟩) (ra * ca) ka)) ∧ Below w.heap.size w W)
    (fun _ _ _ => False)
    (OwnFrom.and (fun s A A' row hs hg hr => ⟨blk_grown hs.1 hg (fun r e => (hr r e).2), three_grown hs.2.1 hg (fun r e => (hr r e).2), three_grown hs.2.2.1 hg (fun r e => (hr r e).2), three_grown hs.2.2.2.1 hg (fun r e => (hr r e).2), three_grown hs.2.2.2.2 hg (fun r e => (hr r e).2)⟩) (ownFrom_below (Nat.le_refl _) (by omega)))
    (fun _ s A A' row hs _ _ => hs)
    ⟨⟨HBLK3.out, TX3.out, TB3.out, TR3.out, TI3.out⟩, HBE3.out⟩
    (fun x => { tmps := #[.agg #[.int .i64 (ra : Int), .int .i64 (ca : Int), .slice (some ⟨ba, oa, none⟩) (ra * ca) ka], .agg #[.int .i64 (ca : Int), .int .i64 (cb : Int), .slice (some ⟨bb, ob, none⟩) (ca * cb) kb], .pointer (some ⟨w.heap.size, 0, none⟩), .pointer (some ⟨w.heap.size + 1, 0, none⟩), .pointer (some ⟨w.heap.size + 1 + 1, 0, none⟩), .pointer (some ⟨Bx, 0, none⟩), .int .i64 (x.1 : Int), .slice (some ⟨ba, oa + x.1 * ca, none⟩) ca (ka - x.1 * ca), undef, undef, .pointer (some ⟨w.heap.size, 0, none⟩), .int .i64 (ra : Int), .pointer (some ⟨w.heap.size + 1, 1, none⟩), .int .i64 (cb : Int), .agg #[.int .i64 (ra : Int), .int .i64 (cb : Int), .slice (some ⟨X, 0, none⟩) (ra * cb) (ra * cb)], .agg #[.int .i64 (ra : Int), .int .i64 (ca : Int), .slice (some ⟨ba, oa, none⟩) (ra * ca) ka], .func (.func 77) #[] #[.pointer (some ⟨Bx + 1, 0, none⟩)], .int .i64 (x.1 : Int), .slice (some ⟨ba, oa + x.1 * ca, none⟩) ca (ka - x.1 * ca), undef, undef, undef, undef, undef, undef, undef, undef, undef, undef, undef, undef, undef, undef, undef, undef, undef, undef], defers := [] }) ?assign ?body ?done ?stop
  case assign =>
    intro l x W K hK
    gi_wp2
    exact hK
  case body =>
    rintro l pre x W ⟨⟨hb, tx, tb, tr, ti⟩, hbe⟩ _
    have HTI := Lib.hid ti
    obtain ⟨x, hx⟩ := x
    have HX := Lib.hid tx
    have HTB := Lib.hid tb
    have HTR := Lib.hid tr
    have HBE := Lib.hid hbe
    have hXW : X < W.heap.size := cell_block (hb 0 (by rw [timesF_length]; exact Nat.mul_pos h1 h5)).2.1
    have HBL := Lib.hid hb
    have hxm : (x + 1) * cb ≤ ra * cb := Nat.mul_le_mul_right cb hx
    have hxa : (x + 1) * ca ≤ ra * ca := Nat.mul_le_mul_right ca hx
    have hxm2 := hxm
    rw [Nat.add_mul, Nat.one_mul] at hxm2 hxa
    have hlF := timesF_length ms bs ra ca cb pre
    obtain ⟨xs, hxs⟩ : ∃ xs, xs = timesF ms bs ra ca cb pre := ⟨_, rfl⟩
    rw [← hxs] at HBL hlF
    have HXS := Lib.hid hxs
    clear tx tb tr ti hb hbe hxs HBLK3 TX3 TB3 TR3 HBE3
    gi_wp2
    gi_loopw [8, 9, 21] (fun _ _ i wr => ∃ k : Nat, i = .int .i64 k ∧ k ≤ ca ∧ Hid (BytesBlk wr X (timesRow ms bs ca cb x k xs)) ∧ Hid (Kept (fun j => j = X) W wr)) (fun _ _ i _ => ca - (intOf i).toNat)
    case atStart => exact ⟨0, rfl, by omega, HBL, Lib.hid (Kept.refl _ _)⟩
    case round =>
      obtain ⟨k, rfl, hk, HD, HK⟩ := hrel
      by_cases hkc : k < ca
      · have hbr := HBE.out.trans (HK.out.below HBE.out.size (fun j hj e => by omega))
        have hca := (HA.out.below hbr)
        obtain ⟨ba', oa', e, _, hcell⟩ := hca.at_ (k := x * ca + k) (by rw [hla]; omega)
        cases e
        rw [← Nat.add_assoc] at hcell
        have hcc := hca.lt (x * ca + k)
        have HNX := Lib.hid (timesRow_succ ms bs ca cb x k xs)
        have hkm : (k + 1) * cb ≤ ca * cb := Nat.mul_le_mul_right cb hkc
        have hrs := rowS_size (bs := bs) (c := cb) (k := k) (by rw [hlb]; exact hkm)
        obtain ⟨cur, hcur⟩ : ∃ cur, cur = timesRow ms bs ca cb x k xs := ⟨_, rfl⟩
        have hlc : cur.length = ra * cb := by rw [hcur, timesRow_length, hlF]
        rw [← hcur] at HD HNX
        have HS : Hid (∀ W', Kept (fun j => j = X) wr W' → Three W' Bx (.int .i64 (ra : Int)) (.int .i64 (cb : Int)) (.slice (some ⟨X, 0, none⟩) (ra * cb) (ra * cb)) ∧ Three W' (w.heap.size + 1) (.int .i64 (ca : Int)) (.int .i64 (cb : Int)) (.slice (some ⟨bb, ob, none⟩) (ca * cb) kb) ∧ (convert 35 9 (.slice (some ⟨bb, ob + k * cb, none⟩) cb (kb - k * cb))).run Try.prog W' = .ok (.string (rowS bs cb k)) W') := fun W' h =>
          ⟨(HX.out.kept HK.out (by omega)).kept h (by omega), (HTB.out.kept HK.out (by omega)).kept h (by omega), row_text (HB.out.below (hbr.trans (h.below hbr.size (fun j hj e => by omega)))) (by rw [hlb]; exact hkm)⟩
        have HBX : Hid (∀ W', Below wr.heap.size wr W' → BytesBlk W' X cur ∧ X < W'.heap.size) := fun W' h => ⟨blk_below HD.out (Nat.lt_of_lt_of_le hXW HK.out.size) h, Nat.lt_of_lt_of_le hXW (Nat.le_trans HK.out.size h.size)⟩
        obtain ⟨s, hs⟩ : ∃ s, s = rowS bs cb k := ⟨_, rfl⟩
        rw [← hs] at HS HNX hrs
        generalize hcg : ms.getD (x * ca + k) 0 = cc at *
        have i0 : (0 : Int) ≤ (k : Int) := by omega
        have i1 : (k : Int) < (ca : Int) := by omega
        clear hca hcur hs hcg
        have mixed : Try.prog.follows .mixedOrders = true := by kernel_rfl
        gi_wp2
        refine wpIn_region_any mixed (wpAnyIn_of (noDefer_of (by kernel_rfl)) (by omega) (fun _ _ h => h) _ _ _ _ (wpAny_of_held (S := fun W' => Kept (fun j => j = X) wr W') _ _ _ _ ?_))
        have hS0 : Kept (fun j => j = X) wr wr.drew := Kept.drew (Kept.refl _ _)
        have hd0 : Below wr.heap.size wr wr.drew := Below.drew (Below.refl _ _)
        change wpAnyH _ _ _ _ _ 9 _ _ wr.drew
        refine wpAnyH_take (i := 0) (v := .agg #[.int .i64 (ra : Int), .int .i64 (cb : Int), .slice (some ⟨X, 0, none⟩) (ra * cb) (ra * cb)]) rfl (by kernel_rfl) (by kernel_rfl) (by kernel_rfl) (fun _ _ _ h => onlyEnd_panic h) (Or.inl ⟨by rfl, fun W' hW' => ?_⟩) hS0 ?_
        · obtain ⟨⟨x0, x1, x2, _, _, _⟩, _, _⟩ := HS.out _ hW'
          go_simp
          try rfl
        try simp only [Act.put, List.setIfInBounds_toArray, List.set_cons_zero, List.set_cons_succ]
        refine wpAnyH_take (i := 1) (v := .int .i64 (x : Int)) rfl (by kernel_rfl) (by kernel_rfl) (by kernel_rfl) (fun _ _ _ h => onlyEnd_panic h) (Or.inl ⟨by rfl, fun W' hW' => ?_⟩) hS0 ?_
        · go_simp
          try rfl
        try simp only [Act.put, List.setIfInBounds_toArray, List.set_cons_zero, List.set_cons_succ]
        refine wpAnyH_take (i := 3) (v := .agg #[.int .i64 (ca : Int), .int .i64 (cb : Int), .slice (some ⟨bb, ob, none⟩) (ca * cb) kb]) rfl (by kernel_rfl) (by kernel_rfl) (by kernel_rfl) (fun _ _ _ h => onlyEnd_panic h) (Or.inl ⟨by rfl, fun W' hW' => ?_⟩) hS0 ?_
        · obtain ⟨_, ⟨b0, b1, b2, _, _, _⟩, _⟩ := HS.out _ hW'
          go_simp
          try rfl
        try simp only [Act.put, List.setIfInBounds_toArray, List.set_cons_zero, List.set_cons_succ]
        refine wpAnyH_take (i := 4) (v := .int .i64 (k : Int)) rfl (by kernel_rfl) (by kernel_rfl) (by kernel_rfl) (fun _ _ _ h => onlyEnd_panic h) (Or.inl ⟨by rfl, fun W' hW' => ?_⟩) hS0 ?_
        · go_simp
          try rfl
        try simp only [Act.put, List.setIfInBounds_toArray, List.set_cons_zero, List.set_cons_succ]
        refine wpAnyH_take (i := 7) (v := .int .u8 (cc : Int)) rfl (by kernel_rfl) (by kernel_rfl) (by kernel_rfl) (fun _ _ _ h => onlyEnd_panic h) (Or.inl ⟨by rfl, fun W' hW' => ?_⟩) hS0 ?_
        · go_simp
          try rfl
        try simp only [Act.put, List.setIfInBounds_toArray, List.set_cons_zero, List.set_cons_succ]
        refine wpAnyH_ready (rs := [2]) (by kernel_rfl) (by simp) ?_
        refine AllReadyH.cons rfl (fun K hK => ?_) AllReadyH.nil
        rw [if_pos (by rfl)]
        go_simp
        refine (row_any (ra : Int) cb x X 0 (ra * cb) (ra * cb) _ h6 h5 (by omega) hxm (Nat.le_refl _) (by omega)).mono ?_
        rintro e w1 ⟨rfl, hb1⟩
        have hd1 := hd0.trans (hb1.mono hd0.size)
        have hS1 : Kept (fun j => j = X) wr w1 := Kept.of_below hd1
        refine hK.out _ _ hS1 (fun hS1 => ?_)
        clear hK hb1
        try simp only [Act.put, List.setIfInBounds_toArray, List.set_cons_zero, List.set_cons_succ]
        refine wpAnyH_ready (rs := [5]) (by kernel_rfl) (by simp) ?_
        refine AllReadyH.cons rfl (fun K hK => ?_) AllReadyH.nil
        rw [if_pos (by rfl)]
        go_simp
        refine (row_any (ca : Int) cb k bb ob (ca * cb) kb _ h6 h5 (by omega) hkm hkb hkb2).mono ?_
        rintro e w2 ⟨rfl, hb2⟩
        have hd2 := hd1.trans (hb2.mono hd1.size)
        have hS2 : Kept (fun j => j = X) wr w2 := Kept.of_below hd2
        refine hK.out _ _ hS2 (fun hS2 => ?_)
        clear hK hb2
        try simp only [Act.put, List.setIfInBounds_toArray, List.set_cons_zero, List.set_cons_succ]
        refine wpAnyH_take (i := 6) (v := .string s) rfl (by kernel_rfl) (by kernel_rfl) (by kernel_rfl) (fun _ _ _ h => onlyEnd_panic h) (Or.inl ⟨by rfl, fun W' hW' => ?_⟩) hS2 ?_
        · obtain ⟨_, _, hcv⟩ := HS.out _ hW'
          go_simp
          try rfl
        try simp only [Act.put, List.setIfInBounds_toArray, List.set_cons_zero, List.set_cons_succ]
        refine wpAnyH_ready (rs := [8]) (by kernel_rfl) (by simp) ?_
        refine AllReadyH.cons rfl (fun K hK => ?_) AllReadyH.nil
        rw [if_pos (by rfl)]
        go_simp
        refine (into_any X (x * cb) cb _ cur s cc _ (HBX.out _ hd2).1 (HBX.out _ hd2).2 (by omega) (by omega) (by omega) (by omega) (by omega)).mono ?_
        rintro e w3 ⟨rfl, hdd, hkk⟩
        have hS3 : Kept (fun j => j = X) wr w3 := hS2.trans hkk
        refine hK.out _ _ hS3 (fun hS3 => ?_)
        clear hK
        try simp only [Act.put, List.setIfInBounds_toArray, List.set_cons_zero, List.set_cons_succ]
        refine wpAnyH_done (by kernel_rfl) ⟨rfl, ?_⟩ _
        rw [← HNX.out] at hdd
        have HD3 := Lib.hid hdd
        have HK3 := Lib.hid (HK.out.trans hS3)
        clear hS0 hd0 hd1 hd2 hS1 hS2 hkk hdd hS3 HS HBX HD HK
        gi_wp2
        go_roundw
        case rel => exact ⟨k + 1, by go_num, by omega, HD3, HK3⟩
        case measure => simp [intOf]; omega
      · have hke : k = ca := by omega
        have H1 := HD.out
        rw [hke, HXS.out] at H1
        have HD1 := Lib.hid H1
        clear H1 hke
        gi_wp2
        exact ⟨keepsOthers_of HK.out (HBL.out 0 (by rw [hlF]; exact Nat.mul_pos h1 h5)).2.1, ⟨HK.out.size, HK.out.block (Bx + 1) (cell_block HTI.out.c0) (by omega)⟩, ⟨by rw [timesF_snoc]; exact HD1.out, HX.out.kept HK.out (by omega), HTB.out.kept HK.out (by omega), HTR.out.kept HK.out (by omega), HTI.out.kept HK.out (by omega)⟩, HBE.out.trans (HK.out.below HBE.out.size (fun j hj e => by omega))⟩
  case done =>
    rintro D xs W hD rfl ⟨⟨hb, hm, _, hr, _⟩, hbe⟩ hK
    rw [timesF_all HA.out.2 HB.out.2 ra ca cb h5] at hb
    obtain ⟨m0, m1, m2, mf0, mf1, mf2⟩ := hm
    have HR := Lib.hid hr
    obtain ⟨r0, r1, r2, rf0, rf1, rf2⟩ := hr
    gi_wp2
    have hK1 := ((KeepsOthers.setCell W ⟨w.heap.size + 1 + 1, 0, none⟩ (.int .i64 (ra : Int))).trans ((KeepsOthers.setCell _ ⟨w.heap.size + 1 + 1, 1, none⟩ (.int .i64 (cb : Int))).trans (KeepsOthers.setCell _ ⟨w.heap.size + 1 + 1, 2, none⟩ (.slice (some ⟨X, 0, none⟩) (ra * cb) (ra * cb))))).same D _ hK rfl
    have hDW := (Array.getElem?_eq_some_iff.1 hK).1
    have ht := three_put HR.out (.int .i64 (ra : Int)) (.int .i64 (cb : Int)) (.slice (some ⟨X, 0, none⟩) (ra * cb) (ra * cb))
    have hu := blk_cell (blk_cell (blk_cell hb (d := ⟨w.heap.size + 1 + 1, 0, none⟩) (u := .int .i64 (ra : Int)) (by dsimp only; omega)) (d := ⟨w.heap.size + 1 + 1, 1, none⟩) (u := .int .i64 (cb : Int)) (by dsimp only; omega)) (d := ⟨w.heap.size + 1 + 1, 2, none⟩) (u := .slice (some ⟨X, 0, none⟩) (ra * cb) (ra * cb)) (by dsimp only; omega)
    have hx := ((hbe.setCell (p := ⟨w.heap.size + 1 + 1, 0, none⟩) (by dsimp only; omega) (.int .i64 (ra : Int))).setCell (p := ⟨w.heap.size + 1 + 1, 1, none⟩) (by dsimp only; omega) (.int .i64 (cb : Int))).setCell (p := ⟨w.heap.size + 1 + 1, 2, none⟩) (by dsimp only; omega) (.slice (some ⟨X, 0, none⟩) (ra * cb) (ra * cb))
    have hsz : (((W.setCell ⟨w.heap.size + 1 + 1, 0, none⟩ (.int .i64 (ra : Int))).setCell ⟨w.heap.size + 1 + 1, 1, none⟩ (.int .i64 (cb : Int))).setCell ⟨w.heap.size + 1 + 1, 2, none⟩ (.slice (some ⟨X, 0, none⟩) (ra * cb) (ra * cb))).heap.size = W.heap.size := by simp only [World.size_setCell]
    clear m0 m1 m2 mf0 mf1 mf2 r0 r1 r2 rf0 rf1 rf2 hb hbe HR
    generalize ((W.setCell ⟨w.heap.size + 1 + 1, 0, none⟩ (.int .i64 (ra : Int))).setCell ⟨w.heap.size + 1 + 1, 1, none⟩ (.int .i64 (cb : Int))).setCell ⟨w.heap.size + 1 + 1, 2, none⟩ (.slice (some ⟨X, 0, none⟩) (ra * cb) (ra * cb)) = U at *
    refine ⟨by simp, .inl ⟨_, _, rfl, run_takeDeferred hK1, ?_⟩⟩
    obtain ⟨t0, t1, t2, _, _, _⟩ := three_grown ht (grownBy_putObj' U D (.deferred none)) (fun r e => by cases e; exact ⟨_, hK1, rfl⟩)
    refine ⟨matV (ra : Int) (cb : Int) (.slice (some ⟨X, 0, none⟩) (ra * cb) (ra * cb)), ?_, X, by omega, by simp [World.putObj]; omega, rfl, blk_grown hu (grownBy_putObj' U D (.deferred none)) (fun r e => by cases e; exact ⟨_, hK1, rfl⟩), hx.trans (belowK_b (w := W3) (by have := HBE3.out.size; omega) U D _ _ hD hK1 rfl rfl)⟩
    simp [results, Try.f56, go_sem, matV, t0, t1, t2]
  case stop =>
    rintro D c pre W _ _ h _
    exact h.elim
end Go.Proofs.Ytijcmdcjjcemfaa

/- matrix.One and Times as calls; matrix.Mul, walked. -/

namespace Go.Proofs.Ytijcmdcjjcemfaa
open Go.ChangeShapes Go.WideShapes Go.ChangeAt Go.RowKit Go.Joins
set_option linter.unusedVariables false
set_option linter.unusedSimpArgs false

/-- A matrix that was made: a block of bytes that may be written. -/
def MadeM (w w' : World) (v : Value) (r c : Nat) (ns : List Nat) : Prop :=
  ∃ B, w.heap.size ≤ B ∧ B < w'.heap.size ∧ v = matV (r : Int) (c : Int) (.slice (some ⟨B, 0, none⟩) (r * c) (r * c)) ∧ BytesBlk w' B ns ∧ ns.length = r * c
theorem MadeM.bytes {w w' : World} {v : Value} {r c : Nat} {ns : List Nat} (h : MadeM w w' v r c ns) : ∃ vl, v = matV (r : Int) (c : Int) vl ∧ BytesV w' vl ns := by
  obtain ⟨B, _, hB, rfl, hb, hl⟩ := h
  refine ⟨_, rfl, ?_⟩
  have := BytesV.of_blk (c := r * c) hb hB
  rw [hl] at this
  exact this

theorem one_yes (n : Nat) (h1 : 1 ≤ n) (h2 : n ≤ 16) (w : World) :
    Calls Try.prog 74 #[.int .i64 (n : Int)] w fun e w' => ∃ v, e = .returned (.tuple #[v, .int .i64 0]) ∧ MadeM w w' v n n (oneL n n) ∧ Below w.heap.size w w' :=
  (callsIn_wide.1 (one_in n h1 h2 w)).mono fun e w' ⟨B, h1, h2, h3, h4, h5⟩ => ⟨_, h3, ⟨B, h1, h2, rfl, h4, oneL_length n n⟩, h5⟩

set_option maxRecDepth 100000 in
set_option maxHeartbeats 400000 in
theorem one_no (n : Int) (h : ¬ (1 ≤ n ∧ n ≤ 16)) (w : World) :
    Calls Try.prog 74 #[.int .i64 n] w fun e w' => e = .returned (.tuple #[matV 0 0 (.slice none 0 0), .int .i64 1]) ∧ Below w.heap.size w w' := by
  have HS := Lib.hid (decide_eq_false h)
  have hb := (Below.refl w.heap.size w).alloc (Nat.le_refl _) (.cells #[.int .i64 0, .int .i64 0, .slice none 0 0] 55)
  have HB := Lib.hid hb
  clear h hb
  go_enter Try.func74, Try.ntmps74
  go_wp2_with (first | (go_at_call 71; refine (side_is _ false HS.out _).mono ?_; rintro e w' ⟨rfl, rfl⟩))
  refine bodyPost_ret (v := .tuple #[matV 0 0 (.slice none 0 0), .int .i64 1]) (by simp [results, Try.results74, go_sem, matV, *]) rfl ⟨rfl, ?_⟩
  exact HB.out

theorem times_any (ra ca cb : Nat) (ba oa na ka bb ob nb kb : Nat) (ms bs : List Nat) (w : World)
    (ha : BytesV w (.slice (some ⟨ba, oa, none⟩) na ka) ms) (hb : BytesV w (.slice (some ⟨bb, ob, none⟩) nb kb) bs) (hla : ms.length = ra * ca) (hlb : bs.length = ca * cb)
    (h1 : 1 ≤ ra) (h2 : ra ≤ 16) (h3 : 1 ≤ ca) (h4 : ca ≤ 16) (h5 : 1 ≤ cb) (h6 : cb ≤ 16) (hka : na ≤ ka) (hkb : nb ≤ kb) (hka2 : ka ≤ 9223372036854775807) (hkb2 : kb ≤ 9223372036854775807) :
    Calls Try.prog 56 #[matV (ra : Int) (ca : Int) (.slice (some ⟨ba, oa, none⟩) na ka), matV (ca : Int) (cb : Int) (.slice (some ⟨bb, ob, none⟩) nb kb)] w fun e w' =>
      ∃ v, e = .returned v ∧ MadeM w w' v ra cb (timesL ms bs ra ca cb) ∧ Below w.heap.size w w' :=
  (callsIn_wide.1 (times_in ra ca cb ba oa na ka bb ob nb kb ms bs w ha hb hla hlb h1 h2 h3 h4 h5 h6 hka hkb hka2 hkb2)).mono fun e w' ⟨B, h1, h2, h3, h4, h5⟩ => ⟨_, h3, ⟨B, h1, h2, rfl, h4, timesL_length _ _ _ _ _⟩, h5⟩
end Go.Proofs.Ytijcmdcjjcemfaa

/- siloref1.One, walked. -/

namespace Go.Proofs.Ytijcmdcjjcemfaa
open Go.ChangeShapes Go.WideShapes Go.ChangeAt Go.RowKit Go.Joins
set_option linter.unusedVariables false
set_option linter.unusedSimpArgs false

set_option maxRecDepth 100000 in
set_option maxHeartbeats 1000000 in
theorem refOne_any (n : Nat) (h1 : 1 ≤ n) (h2 : n ≤ 16) (w : World) :
    Calls Try.prog 50 #[.int .i64 (n : Int)] w fun e w' => ∃ v, e = .returned v ∧ MadeM w w' v n n (oneL n n) ∧ Below w.heap.size w w' := by
  obtain ⟨x, hx⟩ : ∃ x, x = n * n := ⟨_, rfl⟩
  have hm1 : (n : Int) * (n : Int) = (x : Int) := by rw [hx]; simp
  have hxs : x ≤ 16 * 16 := by rw [hx]; exact Nat.mul_le_mul h2 h2
  have w1 : IntKind.i64.wrap (x : Int) = (x : Int) := IntWalk.i64_in _ (by omega)
  have hmk := hmkM (n := x) (by omega)
  obtain ⟨C, hC⟩ : ∃ C, C = cellsOf8 (List.replicate x 0) := ⟨_, rfl⟩
  rw [← hC] at hmk
  obtain ⟨oR, hoR⟩ : ∃ o, o = (Obj.cells #[.int .i64 0, .int .i64 0, .slice none 0 0] 55) := ⟨_, rfl⟩
  obtain ⟨oM, hoM⟩ : ∃ o, o = (Obj.cells #[.int .i64 (n : Int), .int .i64 (n : Int), .slice (some ⟨w.heap.size + 1, 0, none⟩) x x] 55) := ⟨_, rfl⟩
  have tR := Three.new w (.int .i64 0) (.int .i64 0) (.slice none 0 0) 55
  rw [← hoR] at tR
  have tM := Three.new ((w.alloc oR).alloc (.cells C 5)) (.int .i64 (n : Int)) (.int .i64 (n : Int)) (.slice (some ⟨w.heap.size + 1, 0, none⟩) x x) 55
  rw [World.size_alloc, World.size_alloc, ← hoM] at tM
  have hb := bytesBlk_new (w.alloc oR) (ns := List.replicate x 0) rfl 5 (by intro y hy; rw [List.eq_of_mem_replicate hy]; decide)
  rw [World.size_alloc, ← hC] at hb
  have hb2 := blk_below hb (by simp) ((Below.refl _ ((w.alloc oR).alloc (.cells C 5))).alloc (Nat.le_refl _) oM)
  have hbe : Below w.heap.size w (((w.alloc oR).alloc (.cells C 5)).alloc oM) := (((Below.refl w.heap.size w).alloc (Nat.le_refl _) oR).alloc (by simp) _).alloc (by simp; omega) oM
  have HD0 : Hid (BytesBlk (((w.alloc oR).alloc (.cells C 5)).alloc oM) (w.heap.size + 1) (oneL n 0)) := by rw [oneL_zero, ← hx]; exact hb2
  have HTM := Lib.hid tM
  have HTR := Lib.hid ((tR.alloc (.cells C 5)).alloc oM)
  have HBE := Lib.hid hbe
  have hbs : w.heap.size + 1 < (((w.alloc oR).alloc (.cells C 5)).alloc oM).heap.size := by simp
  have HX := Lib.hid hx
  clear tR tM hb hb2 hbe hC hx
  go_enter Try.func50, Try.ntmps50
  go_wp2_with fail
  rw [← hoR, ← hoM]
  generalize ((w.alloc oR).alloc (.cells C 5)).alloc oM = W0 at *
  clear hoR hoM hmk
  go_loopw [4] (fun q wr => ∃ j : Nat, q = .int .i64 j ∧ j ≤ n ∧ w.heap.size + 1 < wr.heap.size ∧ Hid (BytesBlk wr (w.heap.size + 1) (oneL n j)) ∧ Hid (Three wr (w.heap.size + 1 + 1) (.int .i64 (n : Int)) (.int .i64 (n : Int)) (.slice (some ⟨w.heap.size + 1, 0, none⟩) x x)) ∧ Hid (Three wr w.heap.size (.int .i64 0) (.int .i64 0) (.slice none 0 0)) ∧ Hid (Below w.heap.size w wr)) (fun q _ => n - (intOf q).toNat)
  case atStart => exact ⟨0, rfl, by omega, hbs, HD0, HTM, HTR, HBE⟩
  case round =>
    clear HD0 HTM HTR HBE hbs
    obtain ⟨j, rfl, hj, hbs, HD, HTM, HTR, HBE⟩ := hrel
    obtain ⟨a0, a1, a2, a3, a4, a5⟩ := HTM.out
    clear a3 a4 a5
    by_cases hjn : j < n
    · have hin := row_in hjn hjn
      obtain ⟨y, hy⟩ : ∃ y, y = j * n := ⟨_, rfl⟩
      have hm2 : (j : Int) * (n : Int) = (y : Int) := by rw [hy]; simp
      rw [← hy, ← HX.out] at hin
      obtain ⟨c1, c2, c3⟩ := HD.out (y + j) (by rw [oneL_length, ← HX.out]; exact hin)
      generalize (oneL n j).getD (y + j) 0 = old at c2
      have HD1 : Hid (BytesBlk (wr.setCell ⟨w.heap.size + 1, y + j, none⟩ (.int .u8 1)) (w.heap.size + 1) (oneL n (j + 1))) := by
        rw [Hid, oneL_succ, ← hy]; exact HD.out.next (v := 1) (by decide)
      have HTM1 := Lib.hid (three_cell (d := ⟨w.heap.size + 1, y + j, none⟩) (u := .int .u8 1) HTM.out (by dsimp only; omega))
      have HTR1 := Lib.hid (three_cell (d := ⟨w.heap.size + 1, y + j, none⟩) (u := .int .u8 1) HTR.out (by dsimp only; omega))
      have HBE1 := Lib.hid (HBE.out.setCell (p := ⟨w.heap.size + 1, y + j, none⟩) (by dsimp only; omega) (.int .u8 1))
      have hbs1 : w.heap.size + 1 < (wr.setCell ⟨w.heap.size + 1, y + j, none⟩ (.int .u8 1)).heap.size := by rw [World.size_setCell]; exact hbs
      have i0 : (0 : Int) ≤ (y : Int) + (j : Int) := by omega
      have i1 : (y : Int) + (j : Int) < (x : Int) := by omega
      have e1 : ((y : Int) + (j : Int)).toNat = y + j := by omega
      have w2 : IntKind.i64.wrap ((y : Int) + (j : Int)) = (y : Int) + (j : Int) := IntWalk.i64_in _ (by omega)
      have w3 : IntKind.i64.wrap (y : Int) = (y : Int) := IntWalk.i64_in _ (by omega)
      clear HD HTM HTR HBE hy hbs
      go_wp2_with fail
      go_roundw
      case rel => exact ⟨j + 1, by go_num, by omega, hbs1, HD1, HTM1, HTR1, HBE1⟩
      case measure => simp [intOf]; omega
    · have hjn : j = n := by omega
      have H1 := HD.out
      rw [hjn] at H1
      have HD1 := Lib.hid H1
      obtain ⟨r0, r1, r2, r3, r4, r5⟩ := HTR.out
      clear H1 hjn
      go_wp2_with fail
      obtain ⟨t0, t1, t2, _, _, _⟩ := three_put HTR.out (.int .i64 (n : Int)) (.int .i64 (n : Int)) (.slice (some ⟨w.heap.size + 1, 0, none⟩) x x)
      refine bodyPost_ret (v := matV (n : Int) (n : Int) (.slice (some ⟨w.heap.size + 1, 0, none⟩) x x)) (by simp [results, Try.results50, go_sem, matV, *]) rfl ⟨_, rfl, ⟨w.heap.size + 1, by omega, by simp only [World.size_setCell]; exact hbs, by rw [← HX.out], ?_, oneL_length n n⟩, ?_⟩
      · exact blk_cell (blk_cell (blk_cell HD1.out (by dsimp only; omega)) (by dsimp only; omega)) (by dsimp only; omega)
      · exact ((HBE.out.setCell (p := ⟨w.heap.size, 0, none⟩) (by simp) _).setCell (p := ⟨w.heap.size, 1, none⟩) (by simp) _).setCell (p := ⟨w.heap.size, 2, none⟩) (by simp) _
end Go.Proofs.Ytijcmdcjjcemfaa
