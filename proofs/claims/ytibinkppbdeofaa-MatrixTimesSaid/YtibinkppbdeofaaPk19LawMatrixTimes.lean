/- matrix.Mul where it is refused, walked. -/
import Derived.Test.YtibinkppbdeofaaPk09LawMatrixTimes
import Derived.Test.YtibinkppbdeofaaPk04LawMatrixTimes
import Derived.Test.YtibinkppbdeofaaPk18LawMatrixTimes
import Derived.Test.YtibinkppbdeofaaPk05LawMatrixTimes
import Derived.Test.YtibinkppbdeofaaPk12LawMatrixTimes
import Derived.Deep.Onto
import Derived.OrdersHeld
import Derived.Deep.RegionHeld3
import Derived.Test.YtibinkppbdeofaaPk00LawMatrixTimes
namespace Go.Proofs.Ytibinkppbdeofaa
open Go.ChangeShapes Go.WideShapes Go.ChangeAt Go.RowKit Go.Joins
set_option linter.unusedVariables false
set_option linter.unusedSimpArgs false

set_option maxRecDepth 100000 in
set_option maxHeartbeats 1000000 in
theorem mul_no (Ra Ca Rb Cb : Int) (A B : Option Addr) (na ka nb kb : Nat) (w : World) (hna : na ≤ 9223372036854775807) (hnb : nb ≤ 9223372036854775807)
    (h : ¬ (mayM Ra Ca na = true ∧ mayM Rb Cb nb = true ∧ Ca = Rb)) :
    Calls Try.prog 20 #[matV Ra Ca (.slice A na ka), matV Rb Cb (.slice B nb kb)] w fun e w' =>
      e = .returned (.tuple #[matV 0 0 (.slice none 0 0), .int .i64 1]) ∧ Below w.heap.size w w' := by
  obtain ⟨oA, hoA⟩ : ∃ o, o = (Obj.cells #[.int .i64 Ra, .int .i64 Ca, .slice A na ka] 30) := ⟨_, rfl⟩
  obtain ⟨oB, hoB⟩ : ∃ o, o = (Obj.cells #[.int .i64 Rb, .int .i64 Cb, .slice B nb kb] 30) := ⟨_, rfl⟩
  obtain ⟨oR, hoR⟩ : ∃ o, o = (Obj.cells #[.int .i64 0, .int .i64 0, .slice none 0 0] 30) := ⟨_, rfl⟩
  have tA := Three.new w (.int .i64 Ra) (.int .i64 Ca) (.slice A na ka) 30
  rw [← hoA] at tA
  have tB := Three.new (w.alloc oA) (.int .i64 Rb) (.int .i64 Cb) (.slice B nb kb) 30
  rw [World.size_alloc, ← hoB] at tB
  have tR := Three.new ((w.alloc oA).alloc oB) (.int .i64 0) (.int .i64 0) (.slice none 0 0) 30
  rw [World.size_alloc, World.size_alloc, ← hoR] at tR
  have HTA := Lib.hid ((tA.alloc oB).alloc oR)
  have HTB := Lib.hid (tB.alloc oR)
  have HTR := Lib.hid tR
  have hbe : Below w.heap.size w (((w.alloc oA).alloc oB).alloc oR) := (((Below.refl w.heap.size w).alloc (Nat.le_refl _) oA).alloc (by simp) oB).alloc (by simp; omega) oR
  have HBE := Lib.hid hbe
  obtain ⟨pa, hpa⟩ : ∃ pa, mayM Ra Ca na = pa := ⟨_, rfl⟩
  obtain ⟨pb, hpb⟩ : ∃ pb, mayM Rb Cb nb = pb := ⟨_, rfl⟩
  rw [hpa, hpb] at h
  have HPA := Lib.hid hpa
  have HPB := Lib.hid hpb
  clear tA tB tR hbe hpa hpb
  unfold matV
  go_enter Try.func20, Try.ntmps20
  go_wp2_with fail
  rw [← hoA, ← hoB, ← hoR]
  generalize ((w.alloc oA).alloc oB).alloc oR = W0 at *
  clear hoA hoB hoR
  refine (mayM_any Ra Ca A na ka _ hna).mono ?_
  rintro e w1 ⟨rfl, hb1⟩
  rw [HPA.out]
  have ht1 := HTR.out.below hb1
  obtain ⟨r0, r1, r2, r3, r4, r5⟩ := ht1
  have hx1 := HBE.out.trans (hb1.mono HBE.out.size)
  cases pa with
  | false =>
    clear h
    have HT := Lib.hid (HTR.out.below hb1)
    clear hb1
    go_wp2_with fail
    obtain ⟨t0, t1, t2, _, _, _⟩ := three_put HT.out (.int .i64 0) (.int .i64 0) (.slice none 0 0)
    refine bodyPost_ret (v := .tuple #[matV 0 0 (.slice none 0 0), .int .i64 1]) (by simp [results, Try.results20, go_sem, matV, *]) rfl ⟨rfl, ?_⟩
    exact ((hx1.setCell (p := ⟨w.heap.size + 1 + 1, 0, none⟩) (by dsimp only; omega) _).setCell (p := ⟨w.heap.size + 1 + 1, 1, none⟩) (by dsimp only; omega) _).setCell (p := ⟨w.heap.size + 1 + 1, 2, none⟩) (by dsimp only; omega) _
  | true =>
    obtain ⟨b0, b1, b2, b3, b4, b5⟩ := HTB.out.below hb1
    clear b3 b4 b5 r0 r1 r2 r3 r4 r5
    go_wp2_with fail
    refine (mayM_any Rb Cb B nb kb _ hnb).mono ?_
    rintro e w2 ⟨rfl, hb2⟩
    rw [HPB.out]
    have hb12 := hb1.trans (hb2.mono hb1.size)
    have HT := Lib.hid (HTR.out.below hb12)
    obtain ⟨r0, r1, r2, r3, r4, r5⟩ := HTR.out.below hb12
    have hx2 := HBE.out.trans (hb12.mono HBE.out.size)
    clear b0 b1 b2
    obtain ⟨a0, a1, a2, a3, a4, a5⟩ := HTA.out.below hb12
    obtain ⟨b0, b1, b2, b3, b4, b5⟩ := HTB.out.below hb12
    clear a3 a4 a5 b3 b4 b5 hb1 hb2 hb12 hx1
    cases pb with
    | false =>
      clear h
      go_wp2_with fail
      obtain ⟨t0, t1, t2, _, _, _⟩ := three_put HT.out (.int .i64 0) (.int .i64 0) (.slice none 0 0)
      refine bodyPost_ret (v := .tuple #[matV 0 0 (.slice none 0 0), .int .i64 1]) (by simp [results, Try.results20, go_sem, matV, *]) rfl ⟨rfl, ?_⟩
      exact ((hx2.setCell (p := ⟨w.heap.size + 1 + 1, 0, none⟩) (by dsimp only; omega) _).setCell (p := ⟨w.heap.size + 1 + 1, 1, none⟩) (by dsimp only; omega) _).setCell (p := ⟨w.heap.size + 1 + 1, 2, none⟩) (by dsimp only; omega) _
    | true =>
      have hne : (Ca != Rb) = true := by rw [bne_iff_ne]; exact fun e => h (by simp [e])
      clear h
      go_wp2_with fail
      obtain ⟨t0, t1, t2, _, _, _⟩ := three_put HT.out (.int .i64 0) (.int .i64 0) (.slice none 0 0)
      refine bodyPost_ret (v := .tuple #[matV 0 0 (.slice none 0 0), .int .i64 1]) (by simp [results, Try.results20, go_sem, matV, *]) rfl ⟨rfl, ?_⟩
      exact ((hx2.setCell (p := ⟨w.heap.size + 1 + 1, 0, none⟩) (by dsimp only; omega) _).setCell (p := ⟨w.heap.size + 1 + 1, 1, none⟩) (by dsimp only; omega) _).setCell (p := ⟨w.heap.size + 1 + 1, 2, none⟩) (by dsimp only; omega) _
end Go.Proofs.Ytibinkppbdeofaa

/- Answers that are written over: texts (silolaw0.Strings), walked. -/

namespace Go.Proofs.Ytibinkppbdeofaa
open Go.ChangeShapes Go.WideShapes Go.ChangeAt Go.RowKit Go.Joins
set_option linter.unusedVariables false
set_option linter.unusedSimpArgs false

/-- A block whose first n cells hold texts, and may be written. -/
def StrBlk (w : World) (B n : Nat) : Prop := ∀ i, i < n → ∃ s : ByteArray, w.cell? ⟨B, i, none⟩ = some (.string s) ∧ w.frozen? ⟨B, i, none⟩ = false
theorem StrBlk.next {w : World} {B n : Nat} (h : StrBlk w B n) (k : Nat) (s : ByteArray) : StrBlk (w.setCell ⟨B, k, none⟩ (.string s)) B n := by
  intro i hi
  obtain ⟨t, h1, h2⟩ := h i hi
  by_cases e : k = i
  · subst e
    exact ⟨s, World.cell?_setCell_same' _ _ _ (by rw [h1]; rfl), by rw [World.frozen?_setCell]; exact h2⟩
  · exact ⟨t, by rw [World.cell?_setCell_other _ _ _ _ (by simp [e])]; exact h1, by rw [World.frozen?_setCell]; exact h2⟩
theorem StrBlk.below {w w' : World} {B n : Nat} (h : StrBlk w B n) (hb : Below w.heap.size w w') : StrBlk w' B n := by
  intro i hi
  obtain ⟨t, h1, h2⟩ := h i hi
  have hlt : B < w.heap.size := cell_block h1
  refine ⟨t, by rw [hb.cell (p := ⟨B, i, none⟩) hlt]; exact h1, ?_⟩
  have e := hb.block B hlt
  unfold World.frozen? at *
  rw [e]; exact h2
theorem strBlk_new (w : World) (L : List ByteArray) (T : TypeId) : StrBlk (w.alloc (.cells (L.map Value.string).toArray T)) w.heap.size L.length := by
  intro i hi
  refine ⟨L[i], ?_, ?_⟩
  · rw [cell_of_row _ _ _ _ _ _ (heap_alloc_new w _)]
    simp [hi]
  · unfold World.frozen?
    rw [heap_alloc_new]
    simp
/-- A slice of texts that may be written over, none of them in a block below B. -/
def Spoils (B : Nat) (w : World) (v : Value) : Prop := ∃ A n c, v = .slice A n c ∧ (0 < n → ∃ b, A = some ⟨b, 0, none⟩ ∧ B ≤ b ∧ StrBlk w b n)
theorem Spoils.below {B : Nat} {w w' : World} {v : Value} (h : Spoils B w v) (hb : Below w.heap.size w w') : Spoils B w' v := by
  obtain ⟨A, n, c, rfl, h2⟩ := h
  refine ⟨A, n, c, rfl, fun hn => ?_⟩
  obtain ⟨b, e, hB, hs⟩ := h2 hn
  exact ⟨b, e, hB, hs.below hb⟩

set_option maxRecDepth 100000 in
set_option maxHeartbeats 1000000 in
theorem strings_any (B : Nat) (v : Value) (w : World) (h : Spoils B w v) (hlen : ∀ A n c, v = .slice A n c → n ≤ 1000000) :
    Calls Try.prog 36 #[v] w fun e w' => e = .returned (.tuple #[]) ∧ Below B w w' := by
  obtain ⟨A, n, c, rfl, h2⟩ := h
  have hn := hlen A n c rfl
  clear hlen
  by_cases h0 : 0 < n
  · obtain ⟨b, rfl, hB, hs⟩ := h2 h0
    have HS0 := Lib.hid hs
    clear hs h2
    go_enter Try.func36, Try.ntmps36
    go_wp2_with fail
    go_loopw [2] (fun i wr => ∃ k : Nat, i = .int .i64 k ∧ k ≤ n ∧ Hid (StrBlk wr b n) ∧ Hid (Below B w wr)) (fun i _ => n - (intOf i).toNat)
    case atStart => exact ⟨0, rfl, by omega, HS0.out, Below.refl _ _⟩
    case round =>
      clear HS0
      obtain ⟨k, rfl, hk, HS, HB⟩ := hrel
      by_cases hlt : k < n
      · obtain ⟨t, c1, c2⟩ := HS.out k hlt
        have HS1 := Lib.hid (HS.out.next k ⟨#[115, 112, 111, 105, 108, 116]⟩)
        have HB1 := Lib.hid (HB.out.setCell (p := ⟨b, k, none⟩) hB (.string ⟨#[115, 112, 111, 105, 108, 116]⟩))
        have i0 : (0 : Int) ≤ (k : Int) := by omega
        have i1 : (k : Int) < (n : Int) := by omega
        go_wp2_with fail
        go_roundw
        case rel => exact ⟨k + 1, by go_num, by omega, HS1.out, HB1.out⟩
        case measure => simp [intOf]; omega
      · go_wp2_with fail
        first
          | (refine bodyPost_ret (results_none rfl _ _ _) rfl ?_; exact ⟨rfl, HB.out⟩)
          | (go_end0; exact ⟨rfl, HB.out⟩)
  · obtain rfl : n = 0 := by omega
    clear h2
    go_enter Try.func36, Try.ntmps36
    go_wp2_with fail
    go_loopw [2] (fun i wr => i = .int .i64 0 ∧ Hid (Below B w wr)) (fun i _ => 0)
    case atStart => exact ⟨rfl, Below.refl _ _⟩
    case round =>
      obtain ⟨rfl, HB⟩ := hrel
      go_wp2_with fail
      first
        | (refine bodyPost_ret (results_none rfl _ _ _) rfl ?_; exact ⟨rfl, HB.out⟩)
        | (go_end0; exact ⟨rfl, HB.out⟩)

/-- What was appended to may be written over. -/
theorem Spoils.of_own {w : World} {B n : Nat} {e : TypeId} {v : Value} {L : List ByteArray} (h : w.ownsRow B e 1 v n (L.map Value.string)) : Spoils B w v := by
  have hc := h
  obtain ⟨hl, ⟨rfl, rfl⟩ | ⟨g, cap, cur, rfl, hB, hh, h1, h2, h3, h4⟩⟩ := h
  · exact ⟨none, 0, 0, rfl, fun h => absurd h (by omega)⟩
  · refine ⟨_, _, _, rfl, fun _ => ⟨g, rfl, hB, fun i hi => ?_⟩⟩
    have hil : i < L.length := by rw [List.length_map] at hl; omega
    refine ⟨L[i], ?_, ?_⟩
    · have := hc.cells (g := g) rfl i (.string L[i]) (by simp [hil])
      rw [Go.WideShapes.add_plain, Nat.zero_add] at this
      exact this
    · have hi2 : i < cur.size := by rw [h3]; omega
      simp [World.frozen?, hh, hi2]
theorem Spoils.nil (B : Nat) (w : World) (A : Option Addr) (c : Nat) : Spoils B w (.slice A 0 c) := ⟨A, 0, c, rfl, fun h => absurd h (by omega)⟩
end Go.Proofs.Ytibinkppbdeofaa

/- matrix.Mul and matrix.Apply, whatever comes in, as one contract each. -/

namespace Go.Proofs.Ytibinkppbdeofaa
open Go.ChangeShapes Go.WideShapes Go.ChangeAt Go.RowKit Go.Joins
set_option linter.unusedVariables false
set_option linter.unusedSimpArgs false

/-- Whether two matrices may be multiplied; what comes of it. -/
def mulK (Ra Ca Rb Cb : Int) (na nb : Nat) : Bool := mayM Ra Ca na && (mayM Rb Cb nb && decide (Ca = Rb))
def mulE (k : Bool) : Int := if k then 0 else 1
def mulR (k : Bool) (R : Int) : Int := if k then R else 0
def mulX (k : Bool) (ms ns : List Nat) (Ra Ca Cb : Int) : List Nat := if k then timesL ms ns Ra.toNat Ca.toNat Cb.toNat else []
theorem mulK_yes {Ra Ca Rb Cb : Int} {na nb : Nat} (h : mulK Ra Ca Rb Cb na nb = true) : mayM Ra Ca na = true ∧ mayM Rb Cb nb = true ∧ Ca = Rb := by
  unfold mulK at h
  simp only [Bool.and_eq_true, decide_eq_true_eq] at h
  exact h
theorem bytesV_nil (w : World) (A : Option Addr) (c : Nat) : BytesV w (.slice A 0 c) [] := ⟨⟨by simp, A, c, rfl, fun h => absurd h (by simp)⟩, by simp⟩

theorem mulX_len (k : Bool) {ms ns : List Nat} {Ra Ca Cb : Int} (hk : k = mulK Ra Ca Ca Cb ms.length ns.length) : (mulX k ms ns Ra Ca Cb).length ≤ 256 := by
  cases k with
  | false => simp [mulX]
  | true =>
    obtain ⟨m1, m2, _⟩ := mulK_yes hk.symm
    obtain ⟨r, cc, rfl, rfl, _, r16, _, _, _⟩ := mayM_yes m1
    obtain ⟨r', cb, _, rfl, _, _, _, b16, _⟩ := mayM_yes m2
    have := Nat.mul_le_mul r16 b16
    simp only [mulX, if_true, Int.toNat_natCast, timesL_length]
    omega
theorem mul_all (Ra Ca Rb Cb : Int) (va vb : Value) (ms ns : List Nat) (w : World) (ha : BytesV w va ms) (hb : BytesV w vb ns) (ra : RoomV va ms) (rb : RoomV vb ns) (hla : ms.length ≤ 100000) (hlb : ns.length ≤ 100000) (k : Bool) (hk : mulK Ra Ca Rb Cb ms.length ns.length = k) :
    Calls Try.prog 20 #[matV Ra Ca va, matV Rb Cb vb] w fun e w' =>
      ∃ vl, e = .returned (.tuple #[matV (mulR k Ra) (mulR k Cb) vl, .int .i64 (mulE k)]) ∧ BytesV w' vl (mulX k ms ns Ra Ca Cb) ∧ Below w.heap.size w w' := by
  obtain ⟨A, c, rfl, h1, h2⟩ := ra
  obtain ⟨B, d, rfl, h3, h4⟩ := rb
  cases k with
  | true =>
    obtain ⟨m1, m2, rfl⟩ := mulK_yes hk
    obtain ⟨r, cc, rfl, rfl, r1, r16, c1, c16, hrc⟩ := mayM_yes m1
    obtain ⟨r', cb, e, rfl, q1, q16, b1, b16, hrb⟩ := mayM_yes m2
    obtain rfl : r' = cc := by omega
    have hn1 : 0 < ms.length := by rw [hrc]; exact Nat.mul_pos r1 c1
    have hn2 : 0 < ns.length := by rw [hrb]; exact Nat.mul_pos c1 b1
    obtain ⟨b3, o3, rfl, _, _⟩ := ha.at_ hn1
    obtain ⟨b4, o4, rfl, _, _⟩ := hb.at_ hn2
    refine (mul_yes r r' cb b3 o3 c b4 o4 d ms ns w ha hb hrc hrb r1 r16 c1 c16 b1 b16 h1 h3 h2 h4).mono fun e w' ⟨v, he, hm, hbe⟩ => ?_
    obtain ⟨vl, rfl, hvl⟩ := hm.bytes
    exact ⟨vl, he, hvl, hbe⟩
  | false =>
    refine (mul_no Ra Ca Rb Cb A B ms.length c ns.length d w (by omega) (by omega) ?_).mono fun e w' ⟨he, hbe⟩ => ⟨_, he, bytesV_nil _ _ _, hbe⟩
    intro ⟨q1, q2, q3⟩
    unfold mulK at hk
    rw [q1, q2, q3] at hk
    simp at hk
theorem refMatrix_is (R C : Int) (A : Option Addr) (n k : Nat) (b : Bool) (hb : mayM R C n = b) (w : World) (hn : n ≤ 9223372036854775807) :
    Calls Try.prog 23 #[.agg #[.int .i64 R, .int .i64 C, .slice A n k]] w fun e w' => e = .returned (.bool b) ∧ Below w.heap.size w w' := by
  have := refMatrix_any R C A n k w hn
  rw [hb] at this
  exact this

/-- Whether a matrix may be applied to so many lanes; what comes of it. -/
def appK (R C : Int) (nm n : Nat) : Bool := mayM R C nm && decide ((n : Int) = C)
def appE (k : Bool) (L : List ByteArray) : Int := if k then mayN L else 1
def appX (k : Bool) (ms : List Nat) (R : Int) (L : List ByteArray) : List ByteArray := if k && mayN L == 0 then applyL ms L R.toNat L.length (L.getD 0 ByteArray.empty).size else []
theorem appX_len (k : Bool) {ms : List Nat} {R C : Int} {L : List ByteArray} (hk : k = appK R C ms.length L.length) : (appX k ms R L).length ≤ 16 := by
  unfold appX
  split
  · rename_i h
    cases k with
    | false => simp at h
    | true =>
      have h2 := hk.symm
      unfold appK at h2
      simp only [Bool.and_eq_true] at h2
      obtain ⟨r, cc, rfl, _, _, r16, _⟩ := mayM_yes h2.1
      rw [applyL_length]
      omega
  · simp
theorem strs6_own {w : World} {B n : Nat} {e : TypeId} {v : Value} {L : List ByteArray} (h : w.ownsRow B e 1 v n (L.map Value.string)) : Strs6 w v L := by
  have h1 := RowIs.of_own h
  have h2 : n = L.length := by have := h1.1; simp at this; omega
  rw [h2] at h1
  exact h1
theorem strs6_nil (w : World) (A : Option Addr) (c : Nat) : Strs6 w (.slice A 0 c) [] := ⟨by simp, A, c, rfl, fun h => absurd h (by simp)⟩

theorem apply_all (R C : Int) (va vl : Value) (ms : List Nat) (L : List ByteArray) (w : World) (ha : BytesV w va ms) (ra : RoomV va ms) (hl : Strs6 w vl L) (hla : ms.length ≤ 100000) (k : Bool) (hk : appK R C ms.length L.length = k) :
    Calls Try.prog 32 #[matV R C va, vl] w fun e w' =>
      ∃ r, e = .returned (.tuple #[r, .int .i64 (appE k L)]) ∧ Strs6 w' r (appX k ms R L) ∧ Spoils w.heap.size w' r ∧ Below w.heap.size w w' := by
  obtain ⟨A, c, rfl, h1, h2⟩ := ra
  obtain ⟨Al, cl, rfl⟩ := hl.shape
  cases k with
  | true =>
    unfold appK at hk
    simp only [Bool.and_eq_true, decide_eq_true_eq] at hk
    obtain ⟨m1, rfl⟩ := hk
    obtain ⟨r, cc, rfl, e, r1, r16, c1, c16, hrc⟩ := mayM_yes m1
    obtain rfl : cc = L.length := by omega
    have hn1 : 0 < ms.length := by rw [hrc]; exact Nat.mul_pos r1 c1
    obtain ⟨b3, o3, rfl, _, _⟩ := ha.at_ hn1
    by_cases hm : mayN L = 0
    · have hsz := mayN_all hm
      have h8 : (L.getD 0 ByteArray.empty).size ≤ 8192 := by
        rw [← List.getElem_eq_getD (h := by omega)]
        exact (hsz _ (List.getElem_mem _)).2
      refine (apply_yes r _ b3 o3 c _ ms L w ha hl hrc (fun s hs => (hsz s hs).1) h8 r1 r16 c1 c16 h1 h2).mono fun e w' ⟨x, he, hown, hbe⟩ => ?_
      have hX : appX true ms (r : Int) L = applyL ms L r L.length (L.getD 0 ByteArray.empty).size := by simp [appX, hm]
      refine ⟨x, by rw [he]; simp [appE, hm], ?_, Spoils.of_own hown, hbe⟩
      rw [hX]
      exact strs6_own hown
    · refine (apply_bad r b3 o3 c _ ms L w ha hl hrc hm r1 r16 c1 c16 h1 h2).mono fun e w' ⟨he, hbe⟩ => ?_
      have hX : appX true ms (r : Int) L = [] := by simp [appX, hm]
      refine ⟨_, he, ?_, Spoils.nil _ _ _ _, hbe⟩
      rw [hX]
      exact strs6_nil _ _ _
  | false =>
    refine (apply_no R C A Al ms.length c L.length cl w (by omega) ?_).mono fun e w' ⟨he, hbe⟩ => ⟨_, he, strs6_nil _ _ _, Spoils.nil _ _ _ _, hbe⟩
    unfold appK at hk
    simp only [Bool.and_eq_false_iff, decide_eq_false_iff_not] at hk
    exact hk
end Go.Proofs.Ytibinkppbdeofaa

/- siloref1.Apply, walked. -/

namespace Go.Proofs.Ytibinkppbdeofaa
open Go.ChangeShapes Go.WideShapes Go.ChangeAt Go.RowKit Go.Joins
set_option linter.unusedVariables false
set_option linter.unusedSimpArgs false

theorem below_of_drewQ {w w' : World} (h : Below w.drew.heap.size w.drew w') : Below w.heap.size w w' :=
  (show Below w.heap.size w w.drew from ⟨rfl, rfl, rfl, Nat.le_refl _, fun _ _ => rfl⟩).trans h

set_option maxRecDepth 100000 in
set_option maxHeartbeats 8000000 in
theorem refApply_any (ra ca n : Nat) (va vl : Value) (ms : List Nat) (l : List ByteArray) (w : World) (ha : BytesV w va ms) (hl : Strs6 w vl l) (hla : ms.length = ra * ca) (hll : l.length = ca) (hln : ∀ s ∈ l, s.size = n) (hn : n ≤ 8192)
    (h1 : 1 ≤ ra) (h2 : ra ≤ 16) (h3 : 1 ≤ ca) (h4 : ca ≤ 16) :
    Calls Try.prog 34 #[matV (ra : Int) (ca : Int) va, vl] w fun e w' => ∃ r, e = .returned r ∧ w'.ownsRow w.heap.size 9 1 r ra ((applyL ms l ra ca n).map Value.string) ∧ Below w.heap.size w w' := by
  obtain ⟨i0, hi, hz0, hz1, hz2⟩ := info_parts infoStr6
  obtain ⟨Aa, ka, rfl⟩ := ha.shape
  obtain ⟨Al, kl, rfl⟩ := hl.shape
  have tA := Three.new w (.int .i64 (ra : Int)) (.int .i64 (ca : Int)) (.slice Aa ms.length ka) 30
  have hbe := (Below.refl w.heap.size w).alloc (Nat.le_refl _) (.cells #[.int .i64 (ra : Int), .int .i64 (ca : Int), .slice Aa ms.length ka] 30)
  have HTA := Lib.hid tA
  have HBE := Lib.hid hbe
  have HA := Lib.hid ha
  have HL := Lib.hid hl
  have HLA := Lib.hid hla
  have HLL := Lib.hid hll
  have HLN := Lib.hid hln
  have hl0 : 0 < l.length := by omega
  have hl16 : l.length ≤ 16 := by omega
  have hmk := hmkM (n := n) (by omega)
  have hcv : ∀ W : World, (convert 28 9 (.slice (some ⟨W.heap.size, 0, none⟩) n n)).run Try.prog (W.alloc (.cells (cellsOf8 (List.replicate n 0)) 5)) = .ok (.string (zeroN n)) (W.alloc (.cells (cellsOf8 (List.replicate n 0)) 5)) := fun W => by
    have hB : BytesBlk (W.alloc (.cells (cellsOf8 (List.replicate n 0)) 5)) W.heap.size (List.replicate n 0) := bytesBlk_new W (ns := List.replicate n 0) rfl _ (by intro x hx; rw [List.eq_of_mem_replicate hx]; decide)
    have := convert_bytes (P := Try.prog) (b := W.heap.size) (off := 0) (cap := n) (ns := List.replicate n 0) Try.underlying28 Try.underlying5 Try.underlying9 (BytesBlk.cells hB)
    rw [List.length_replicate] at this
    exact this
  obtain ⟨C, hC⟩ : ∃ C, C = cellsOf8 (List.replicate n 0) := ⟨_, rfl⟩
  rw [← hC] at hmk hcv
  clear tA hbe ha hl hla hll hln hC
  unfold matV
  go_enter Try.func34, Try.ntmps34
  go_wp2_with fail
  generalize w.alloc (.cells #[.int .i64 (ra : Int), .int .i64 (ca : Int), .slice Aa ms.length ka] 30) = W0 at *
  go_loopw [5, 6] (fun r q wr => ∃ (i : Nat) (r0 : Value), r0 = r ∧ q = .int .i64 i ∧ i ≤ ra ∧ wr.ownsRow W0.heap.size 9 1 r i (((List.range i).map fun i => rowLane ms l ca n i ca).map Value.string) ∧ Hid (Below W0.heap.size W0 wr)) (fun _ q _ => ra - (intOf q).toNat)
  case atStart => exact ⟨0, _, rfl, rfl, by omega, World.ownsRow_nil _ _ _ _, Lib.hid (Below.refl _ _)⟩
  case round =>
    obtain ⟨i, r, rfl, rfl, hir, hown, HB⟩ := hrel
    obtain ⟨a0, a1, a2, a3, a4, a5⟩ := HTA.out.below HB.out
    clear a3 a4 a5
    have hbw := HBE.out.trans (HB.out.mono HBE.out.size)
    by_cases hlt : i < ra
    · obtain ⟨bl, ol, rfl, hbl, hcell⟩ := (HL.out.below hbw).at_ hl0
      rw [Nat.add_zero] at hcell
      obtain ⟨s0, hs0⟩ : ∃ s0, s0 = l[0]'hl0 := ⟨_, rfl⟩
      rw [← hs0] at hcell
      have hs0n : s0.size = n := by rw [hs0]; exact HLN.out _ (List.getElem_mem _)
      have i1 : (0 : Int) < (l.length : Int) := by omega
      clear hs0
      have hown0 := hown.alloc (.cells C 5)
      have hb0 := HB.out.alloc HB.out.size (.cells C 5)
      obtain ⟨z, hz⟩ : ∃ z, z = zeroN n := ⟨_, rfl⟩
      rw [← hz] at hcv
      have HZ : Hid (z = rowLane ms l ca n i 0) := hz
      clear hz
      go_wp2_with fail
      rw [HZ.out]
      clear hmk hcv hs0n hcell HZ a0 a1 a2
      generalize wr.alloc (.cells C 5) = V at *
      go_loopw [7, 8] (fun u qq wx => ∃ k : Nat, qq = .int .i64 k ∧ k ≤ ca ∧ u = .string (rowLane ms l ca n i k) ∧ wx.ownsRow W0.heap.size 9 1 r i (((List.range i).map fun i => rowLane ms l ca n i ca).map Value.string) ∧ Hid (Below W0.heap.size W0 wx)) (fun _ qq _ => ca - (intOf qq).toNat)
      case atStart => exact ⟨0, rfl, by omega, rfl, hown0, Lib.hid hb0⟩
      case round =>
        clear hown0 hb0 hown HB hbw
        obtain ⟨k, rfl, hk, rfl, hown, HB⟩ := hrel
        obtain ⟨a0, a1, a2, a3, a4, a5⟩ := HTA.out.below HB.out
        clear a3 a4 a5
        have hbw := HBE.out.trans (HB.out.mono HBE.out.size)
        by_cases hkc : k < ca
        · have hkl : k < l.length := by rw [HLL.out]; exact hkc
          have hia : i * ca + k < ms.length := by
            rw [HLA.out]
            have := Nat.mul_le_mul_right ca hlt
            rw [Nat.succ_mul] at this; omega
          obtain ⟨bl', ol', eA, _, hlc⟩ := (HL.out.below hbw).at_ hkl
          cases eA
          obtain ⟨ba, oa, rfl, _, hac⟩ := (HA.out.below hbw).at_ hia
          have hm256 := HA.out.lt (i * ca + k)
          have HNX := Lib.hid (rowLane_succ ms l ca n i k)
          have hsn : (l[k]'hkl).size = n := HLN.out _ (List.getElem_mem _)
          rw [← List.getElem_eq_getD (h := hkl)] at HNX
          generalize l[k]'hkl = sk at *
          have hrs := rowLane_size ms l ca n i k
          obtain ⟨cur, hcur⟩ : ∃ cur, cur = rowLane ms l ca n i k := ⟨_, rfl⟩
          rw [← hcur] at hrs HNX
          rw [← hcur]
          obtain ⟨x1, hx1⟩ : ∃ x1, x1 = i * ca := ⟨_, rfl⟩
          have p1 : (i : Int) * (ca : Int) = (x1 : Int) := by rw [hx1]; simp
          have hxs1 : x1 ≤ 16 * 16 := by rw [hx1]; exact Nat.mul_le_mul (by omega) h4
          rw [← hx1] at hac hia hm256 HNX
          generalize ms.getD (x1 + k) 0 = mm at *
          have hsc := scaledS_size sk mm
          have HMX := Lib.hid (mixS_scaled cur sk mm (by omega))
          have k0 : (0 : Int) ≤ (x1 : Int) + (k : Int) := by omega
          have k1 : (x1 : Int) + (k : Int) < (ms.length : Int) := by omega
          have k2 : (0 : Int) ≤ (k : Int) := by omega
          have k3 : (k : Int) < (l.length : Int) := by omega
          have e1 : ((x1 : Int) + (k : Int)).toNat = x1 + k := by omega
          have w2 : IntKind.i64.wrap ((x1 : Int) + (k : Int)) = (x1 : Int) + (k : Int) := IntWalk.i64_in _ (by omega)
          have w4 : IntKind.i64.wrap (x1 : Int) = (x1 : Int) := IntWalk.i64_in _ (by omega)
          clear hx1 hcur
          have HS : Hid (∀ W', Below wr.heap.size wr W' → W'.cell? ⟨w.heap.size, 0, none⟩ = some (.int .i64 (ra : Int)) ∧ W'.cell? ⟨w.heap.size, 1, none⟩ = some (.int .i64 (ca : Int)) ∧ W'.cell? ⟨w.heap.size, 2, none⟩ = some (.slice (some ⟨ba, oa, none⟩) ms.length ka) ∧ W'.cell? ⟨bl, ol + k, none⟩ = some (.string sk) ∧ W'.cell? ⟨ba, oa + (x1 + k), none⟩ = some (.int .u8 (mm : Int))) := fun W' h =>
            ⟨below_celllt a0 (cell_block a0) h, below_celllt a1 (cell_block a1) h, below_celllt a2 (cell_block a2) h, below_celllt hlc (cell_block hlc) h, below_celllt hac (cell_block hac) h⟩
          have HSCA : Hid (∀ W, Calls Try.prog 55 #[.string sk, .int .u8 (mm : Int)] W fun e w' => e = .returned (.string (scaledS sk mm)) ∧ Below W.heap.size W w') := fun W => refScaled_any sk mm W (by omega) hm256
          have HADD : Hid (∀ (W : World), Calls Try.prog 54 #[.string cur, .string (scaledS sk mm)] W fun e w' => e = .returned (.string (addedS cur (scaledS sk mm))) ∧ Below W.heap.size W w') := fun W => refAdded_any cur (scaledS sk mm) W (by omega) (by omega) (by omega)
          have HOWN := Lib.hid hown
          clear hsn hrs hsc hown hbw
          go_upto_region 9 with (fail)
          go_region_held3 (fun W' => W'.cell? ⟨w.heap.size, 0, none⟩ = some (.int .i64 (ra : Int)) ∧ W'.cell? ⟨w.heap.size, 1, none⟩ = some (.int .i64 (ca : Int)) ∧ W'.cell? ⟨w.heap.size, 2, none⟩ = some (.slice (some ⟨ba, oa, none⟩) ms.length ka) ∧ W'.cell? ⟨bl, ol + k, none⟩ = some (.string sk) ∧ W'.cell? ⟨ba, oa + (x1 + k), none⟩ = some (.int .u8 (mm : Int))) (first | exact HS.out _ hcum | exact HS.out _ (Below.drew hcum) | go_keep)
            (first | (go_at_call 55; refine (HSCA.out _).mono ?_; rintro e w1 ⟨rfl, hbx⟩; have hcum := (by first | exact cum2 (Below.drew (Below.refl wr.heap.size wr)) hbx | exact cum2d (Below.refl wr.heap.size wr) hbx | exact hbx)) | (go_at_call 54; refine (HADD.out _).mono ?_; rintro e w2 ⟨rfl, hby⟩; have hcum := (by first | exact cum2 hcum hby | exact cum2d hcum hby)))
          rw [HMX.out, ← HNX.out]
          clear a0 a1 a2 hlc hac
          have hown2 := own_below HOWN.out hcum
          have hB2 := HB.out.trans (hcum.mono HB.out.size)
          clear HS HOWN HB HSCA HADD
          go_wp2_with fail
          go_roundw
          case rel => exact ⟨k + 1, by go_num, by omega, rfl, hown2, Lib.hid hB2⟩
          case measure => simp [intOf]; omega
        · have hke : k = ca := by omega
          rw [hke]
          have hjd : decide ((ca : Int) < (ca : Int)) = false := by simp
          have HT : Hid (((List.range (i + 1)).map fun i => rowLane ms l ca n i ca).map Value.string = ((List.range i).map fun i => rowLane ms l ca n i ca).map Value.string ++ [.string (rowLane ms l ca n i ca)]) := by
            rw [Hid, List.range_succ, List.map_append, List.map_append]; rfl
          generalize rowLane ms l ca n i ca = cur at *
          clear hke
          have hW0 := HB.out.size
          have hwW := HBE.out.size
          go_wp2_with (first | (at_builtin; refine wpList_append_own _ rfl _ _ 24 rfl W0.heap.size 9 i0 (.string ByteArray.empty) 1 16 Try.underlying24 hi hz0 hz1 hz2 rfl (by decide) _ _ _ rfl (hown.alloc _) ⟨wr.heap.size, 0, none⟩ 1 1 [.string cur] rfl rfl ?c1 ?c2 ?c3 ?c4 ?c5 ?_) | go_in)
          case c1 => exact cell_one_new' _ _ _
          case c2 => intro u hu; simp at hu; subst hu; rfl
          case c3 => unfold maxLen; omega
          case c4 => omega
          case c5 => simp; omega
          all_goals
            intro v' w1 hown' hgrow _
            have hbx := append_below HB.out hown hgrow
            clear hown hgrow
            go_wp2_with fail
            go_roundw
            case rel => exact ⟨i + 1, _, rfl, by go_num, by omega, by rw [HT.out]; simpa only [List.map_map] using hown', Lib.hid hbx⟩
            case measure => simp [intOf]; omega
    · have hke : i = ra := by omega
      rw [hke] at hown
      clear hke
      go_wp2_with fail
      all_goals
        go_ret
        exact ⟨_, rfl, World.ownsRow.mono hown HBE.out.size, hbw⟩
end Go.Proofs.Ytibinkppbdeofaa

/- Two lists of texts that are one. -/

namespace Go.Proofs.Ytibinkppbdeofaa
open Go.ChangeShapes Go.WideShapes Go.ChangeAt Go.RowKit Go.Joins
set_option linter.unusedVariables false
set_option linter.unusedSimpArgs false

set_option maxRecDepth 100000 in
set_option maxHeartbeats 1000000 in
theorem eqStrs6_yes (va vb : Value) (l : List ByteArray) (w : World) (ha : Strs6 w va l) (hb : Strs6 w vb l) (hm : l.length ≤ 9000000000000000000) :
    Calls Try.prog 35 #[va, vb] w fun e w' => e = .returned (.bool true) ∧ Below w.heap.size w w' := by
  have HA := Lib.hid ha
  have HB := Lib.hid hb
  obtain ⟨Aa, ka, rfl⟩ := ha.shape
  obtain ⟨Ab, kb, rfl⟩ := hb.shape
  clear ha hb
  go_enter Try.func35, Try.ntmps35
  go_wp2_with fail
  go_loopw [5] (fun i wr => ∃ k : Nat, i = .int .i64 k ∧ k ≤ l.length ∧ Below w.heap.size w wr) (fun i _ => l.length - (intOf i).toNat)
  case atStart => exact ⟨0, rfl, by omega, Below.refl _ _⟩
  case round =>
    obtain ⟨k, rfl, hk, hwr⟩ := hrel
    by_cases hlt : k < l.length
    · obtain ⟨ba, oa, rfl, _, a0⟩ := (HA.out.below hwr).at_ hlt
      obtain ⟨bb, ob, rfl, _, b0⟩ := (HB.out.below hwr).at_ hlt
      generalize l[k]'hlt = s at a0 b0
      go_wp2_with fail
      go_quiet (fail)
      all_goals
        go_wp2_with fail
        go_roundw
        case rel => exact ⟨k + 1, by go_num, by omega, below_drewN hwr _⟩
        case measure => simp [intOf]; omega
    · go_wp2_with fail
      go_ret
      exact ⟨rfl, hwr⟩
end Go.Proofs.Ytibinkppbdeofaa
