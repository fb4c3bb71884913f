/- matrix.Lanes as a call; matrix.Apply, walked. -/
import Derived.Test.YtdagnmhioellhaaPkA13
import Derived.Test.YtdagnmhioellhaaPkA08
import Derived.Test.YtdagnmhioellhaaPkA03
import Derived.Test.YtdagnmhioellhaaPkA20
import Derived.Test.YtdagnmhioellhaaPkA04
import Derived.Test.YtdagnmhioellhaaPkA19
import Derived.Test.YtdagnmhioellhaaPkA18
namespace Go.Proofs.Ytdagnmhioellhaa
open Go.ChangeShapes Go.WideShapes Go.ChangeAt Go.RowKit Go.Joins
set_option linter.unusedVariables false
set_option linter.unusedSimpArgs false

theorem lanes_any (ra ca n : Nat) (ba oa na ka : Nat) (vl : Value) (ms : List Nat) (l : List ByteArray) (w : World)
    (ha : BytesV w (.slice (some ⟨ba, oa, none⟩) na ka) ms) (hl : Strs6 w vl l) (hla : ms.length = ra * ca) (hll : l.length = ca) (hln : ∀ s ∈ l, s.size = n) (hn : n ≤ 8192)
    (h1 : 1 ≤ ra) (h2 : ra ≤ 16) (h3 : 1 ≤ ca) (h4 : ca ≤ 16) (hka : na ≤ ka) (hka2 : ka ≤ 9223372036854775807) :
    Calls Try.prog 44 #[matV (ra : Int) (ca : Int) (.slice (some ⟨ba, oa, none⟩) na ka), vl] w fun e w' =>
      ∃ r, e = .returned r ∧ w'.ownsRow w.heap.size 9 1 r ra ((applyL ms l ra ca n).map Value.string) ∧ Below w.heap.size w w' :=
  callsIn_wide.1 (lanes_in ra ca n ba oa na ka vl ms l w ha hl hla hll hln hn h1 h2 h3 h4 hka hka2)

theorem mayGo_ok {f : Nat} : ∀ (L : List ByteArray) (e : Int), (∀ s ∈ L, s.size ≤ 8192 ∧ s.size = f) → mayGo f L e = e
  | [], e, _ => rfl
  | s :: r, e, h => by
    have hs := h s (by simp)
    rw [mayGo, if_neg (by omega), if_pos hs.2]
    exact mayGo_ok r e fun x hx => h x (by simp [hx])
theorem mayN_ok {L : List ByteArray} {n : Nat} (h0 : 0 < L.length) (h : ∀ s ∈ L, s.size = n) (hn : n ≤ 8192) : mayN L = 0 := by
  have e : (L.getD 0 ByteArray.empty).size = n := by
    rw [← List.getElem_eq_getD (h := h0)]; exact h _ (List.getElem_mem _)
  exact mayGo_ok L 0 fun s hs => by rw [h s hs, e]; exact ⟨hn, rfl⟩
theorem mayGo_all' (f : Nat) : ∀ (L : List ByteArray) (e : Int), mayGo f L e = 0 → e = 0 ∧ ∀ s ∈ L, s.size ≤ 8192 ∧ s.size = f
  | [], e, h => ⟨h, fun s hs => absurd hs (by simp)⟩
  | s :: r, e, h => by
    rw [mayGo] at h
    split at h
    · omega
    · obtain ⟨h1, h2⟩ := mayGo_all' f r _ h
      split at h1
      · refine ⟨h1, fun x hx => ?_⟩
        rcases List.mem_cons.1 hx with rfl | hx
        · exact ⟨by omega, by assumption⟩
        · exact h2 x hx
      · omega
theorem mayN_all {L : List ByteArray} (h : mayN L = 0) : ∀ s ∈ L, s.size = (L.getD 0 ByteArray.empty).size ∧ s.size ≤ 8192 := fun s hs =>
  ⟨((mayGo_all' _ L 0 h).2 s hs).2, ((mayGo_all' _ L 0 h).2 s hs).1⟩

end Go.Proofs.Ytdagnmhioellhaa

/- matrix.Mul where it is refused, walked. -/

namespace Go.Proofs.Ytdagnmhioellhaa
open Go.ChangeShapes Go.WideShapes Go.ChangeAt Go.RowKit Go.Joins
set_option linter.unusedVariables false
set_option linter.unusedSimpArgs false

end Go.Proofs.Ytdagnmhioellhaa

/- Answers that are written over: texts (silolaw0.Strings), walked. -/

namespace Go.Proofs.Ytdagnmhioellhaa
open Go.ChangeShapes Go.WideShapes Go.ChangeAt Go.RowKit Go.Joins
set_option linter.unusedVariables false
set_option linter.unusedSimpArgs false

/-- A block whose first n cells hold texts, and may be written. -/
def StrBlk (w : World) (B n : Nat) : Prop := ∀ i, i < n → ∃ s : ByteArray, w.cell? ⟨B, i, none⟩ = some (.string s) ∧ w.frozen? ⟨B, i, none⟩ = false
theorem StrBlk.next {w : World} {B n : Nat} (h : StrBlk w B n) (k : Nat) (s : ByteArray) : StrBlk (w.setCell ⟨B, k, none⟩ (.string s)) B n := by
  intro i hi
  obtain ⟨t, h1, h2⟩ := h i hi
  by_cases e : k = i
  · subst e
    exact ⟨s, World.cell?_setCell_same' _ _ _ (by rw [h1]; rfl), by rw [World.frozen?_setCell]; exact h2⟩
  · exact ⟨t, by rw [World.cell?_setCell_other _ _ _ _ (by simp [e])]; exact h1, by rw [World.frozen?_setCell]; exact h2⟩
theorem StrBlk.below {w w' : World} {B n : Nat} (h : StrBlk w B n) (hb : Below w.heap.size w w') : StrBlk w' B n := by
  intro i hi
  obtain ⟨t, h1, h2⟩ := h i hi
  have hlt : B < w.heap.size := cell_block h1
  refine ⟨t, by rw [hb.cell (p := ⟨B, i, none⟩) hlt]; exact h1, ?_⟩
  have e := hb.block B hlt
  unfold World.frozen? at *
  rw [e]; exact h2
theorem strBlk_new (w : World) (L : List ByteArray) (T : TypeId) : StrBlk (w.alloc (.cells (L.map Value.string).toArray T)) w.heap.size L.length := by
  intro i hi
  refine ⟨L[i], ?_, ?_⟩
  · rw [cell_of_row _ _ _ _ _ _ (heap_alloc_new w _)]
    simp [hi]
  · unfold World.frozen?
    rw [heap_alloc_new]
    simp
/-- A slice of texts that may be written over, none of them in a block below B. -/
def Spoils (B : Nat) (w : World) (v : Value) : Prop := ∃ A n c, v = .slice A n c ∧ (0 < n → ∃ b, A = some ⟨b, 0, none⟩ ∧ B ≤ b ∧ StrBlk w b n)
theorem Spoils.below {B : Nat} {w w' : World} {v : Value} (h : Spoils B w v) (hb : Below w.heap.size w w') : Spoils B w' v := by
  obtain ⟨A, n, c, rfl, h2⟩ := h
  refine ⟨A, n, c, rfl, fun hn => ?_⟩
  obtain ⟨b, e, hB, hs⟩ := h2 hn
  exact ⟨b, e, hB, hs.below hb⟩

set_option maxRecDepth 100000 in
set_option maxHeartbeats 1000000 in
theorem strings_any (B : Nat) (v : Value) (w : World) (h : Spoils B w v) (hlen : ∀ A n c, v = .slice A n c → n ≤ 1000000) :
    Calls Try.prog 23 #[v] w fun e w' => e = .returned (.tuple #[]) ∧ Below B w w' := by
  obtain ⟨A, n, c, rfl, h2⟩ := h
  have hn := hlen A n c rfl
  clear hlen
  by_cases h0 : 0 < n
  · obtain ⟨b, rfl, hB, hs⟩ := h2 h0
    have HS0 := Lib.hid hs
    clear hs h2
    go_enter Try.func23, Try.ntmps23
    go_wp2_with fail
    go_loopw [2] (fun i wr => ∃ k : Nat, i = .int .i64 k ∧ k ≤ n ∧ Hid (StrBlk wr b n) ∧ Hid (Below B w wr)) (fun i _ => n - (intOf i).toNat)
    case atStart => exact ⟨0, rfl, by omega, HS0.out, Below.refl _ _⟩
    case round =>
      clear HS0
      obtain ⟨k, rfl, hk, HS, HB⟩ := hrel
      by_cases hlt : k < n
      · obtain ⟨t, c1, c2⟩ := HS.out k hlt
        have HS1 := Lib.hid (HS.out.next k ⟨#[115, 112, 111, 105, 108, 116]⟩)
        have HB1 := Lib.hid (HB.out.setCell (p := ⟨b, k, none⟩) hB (.string ⟨#[115, 112, 111, 105, 108, 116]⟩))
        have i0 : (0 : Int) ≤ (k : Int) := by omega
        have i1 : (k : Int) < (n : Int) := by omega
        go_wp2_with fail
        go_roundw
        case rel => exact ⟨k + 1, by go_num, by omega, HS1.out, HB1.out⟩
        case measure => simp [intOf]; omega
      · go_wp2_with fail
        first
          | (refine bodyPost_ret (results_none rfl _ _ _) rfl ?_; exact ⟨rfl, HB.out⟩)
          | (go_end0; exact ⟨rfl, HB.out⟩)
  · obtain rfl : n = 0 := by omega
    clear h2
    go_enter Try.func23, Try.ntmps23
    go_wp2_with fail
    go_loopw [2] (fun i wr => i = .int .i64 0 ∧ Hid (Below B w wr)) (fun i _ => 0)
    case atStart => exact ⟨rfl, Below.refl _ _⟩
    case round =>
      obtain ⟨rfl, HB⟩ := hrel
      go_wp2_with fail
      first
        | (refine bodyPost_ret (results_none rfl _ _ _) rfl ?_; exact ⟨rfl, HB.out⟩)
        | (go_end0; exact ⟨rfl, HB.out⟩)

/-- What was appended to may be written over. -/
theorem Spoils.of_own {w : World} {B n : Nat} {e : TypeId} {v : Value} {L : List ByteArray} (h : w.ownsRow B e 1 v n (L.map Value.string)) : Spoils B w v := by
  have hc := h
  obtain ⟨hl, ⟨rfl, rfl⟩ | ⟨g, cap, cur, rfl, hB, hh, h1, h2, h3, h4⟩⟩ := h
  · exact ⟨none, 0, 0, rfl, fun h => absurd h (by omega)⟩
  · refine ⟨_, _, _, rfl, fun _ => ⟨g, rfl, hB, fun i hi => ?_⟩⟩
    have hil : i < L.length := by rw [List.length_map] at hl; omega
    refine ⟨L[i], ?_, ?_⟩
    · have := hc.cells (g := g) rfl i (.string L[i]) (by simp [hil])
      rw [Go.WideShapes.add_plain, Nat.zero_add] at this
      exact this
    · have hi2 : i < cur.size := by rw [h3]; omega
      simp [World.frozen?, hh, hi2]
theorem Spoils.nil (B : Nat) (w : World) (A : Option Addr) (c : Nat) : Spoils B w (.slice A 0 c) := ⟨A, 0, c, rfl, fun h => absurd h (by omega)⟩
end Go.Proofs.Ytdagnmhioellhaa

/- matrix.Mul and matrix.Apply, whatever comes in, as one contract each. -/

namespace Go.Proofs.Ytdagnmhioellhaa
open Go.ChangeShapes Go.WideShapes Go.ChangeAt Go.RowKit Go.Joins
set_option linter.unusedVariables false
set_option linter.unusedSimpArgs false

/-- Whether two matrices may be multiplied; what comes of it. -/
def mulK (Ra Ca Rb Cb : Int) (na nb : Nat) : Bool := mayM Ra Ca na && (mayM Rb Cb nb && decide (Ca = Rb))
def mulE (k : Bool) : Int := if k then 0 else 1
def mulR (k : Bool) (R : Int) : Int := if k then R else 0
def mulX (k : Bool) (ms ns : List Nat) (Ra Ca Cb : Int) : List Nat := if k then timesL ms ns Ra.toNat Ca.toNat Cb.toNat else []
theorem mulK_yes {Ra Ca Rb Cb : Int} {na nb : Nat} (h : mulK Ra Ca Rb Cb na nb = true) : mayM Ra Ca na = true ∧ mayM Rb Cb nb = true ∧ Ca = Rb := by
  unfold mulK at h
  simp only [Bool.and_eq_true, decide_eq_true_eq] at h
  exact h
theorem bytesV_nil (w : World) (A : Option Addr) (c : Nat) : BytesV w (.slice A 0 c) [] := ⟨⟨by simp, A, c, rfl, fun h => absurd h (by simp)⟩, by simp⟩

theorem mulX_len (k : Bool) {ms ns : List Nat} {Ra Ca Cb : Int} (hk : k = mulK Ra Ca Ca Cb ms.length ns.length) : (mulX k ms ns Ra Ca Cb).length ≤ 256 := by
  cases k with
  | false => simp [mulX]
  | true =>
    obtain ⟨m1, m2, _⟩ := mulK_yes hk.symm
    obtain ⟨r, cc, rfl, rfl, _, r16, _, _, _⟩ := mayM_yes m1
    obtain ⟨r', cb, _, rfl, _, _, _, b16, _⟩ := mayM_yes m2
    have := Nat.mul_le_mul r16 b16
    simp only [mulX, if_true, Int.toNat_natCast, timesL_length]
    omega
/-- Whether a matrix may be applied to so many lanes; what comes of it. -/
def appK (R C : Int) (nm n : Nat) : Bool := mayM R C nm && decide ((n : Int) = C)
def appE (k : Bool) (L : List ByteArray) : Int := if k then mayN L else 1
def appX (k : Bool) (ms : List Nat) (R : Int) (L : List ByteArray) : List ByteArray := if k && mayN L == 0 then applyL ms L R.toNat L.length (L.getD 0 ByteArray.empty).size else []
theorem appX_len (k : Bool) {ms : List Nat} {R C : Int} {L : List ByteArray} (hk : k = appK R C ms.length L.length) : (appX k ms R L).length ≤ 16 := by
  unfold appX
  split
  · rename_i h
    cases k with
    | false => simp at h
    | true =>
      have h2 := hk.symm
      unfold appK at h2
      simp only [Bool.and_eq_true] at h2
      obtain ⟨r, cc, rfl, _, _, r16, _⟩ := mayM_yes h2.1
      rw [applyL_length]
      omega
  · simp
theorem strs6_own {w : World} {B n : Nat} {e : TypeId} {v : Value} {L : List ByteArray} (h : w.ownsRow B e 1 v n (L.map Value.string)) : Strs6 w v L := by
  have h1 := RowIs.of_own h
  have h2 : n = L.length := by have := h1.1; simp at this; omega
  rw [h2] at h1
  exact h1
theorem strs6_nil (w : World) (A : Option Addr) (c : Nat) : Strs6 w (.slice A 0 c) [] := ⟨by simp, A, c, rfl, fun h => absurd h (by simp)⟩

end Go.Proofs.Ytdagnmhioellhaa

/- code.first, code.Check, field.Exp and field.Pow, walked. -/

namespace Go.Proofs.Ytdagnmhioellhaa
open Go.ChangeShapes Go.WideShapes Go.ChangeAt Go.RowKit Go.Joins
set_option linter.unusedVariables false
set_option linter.unusedSimpArgs false

set_option maxRecDepth 100000 in
theorem check4_any (k m z : Int) (bo : Bool) (hbo : mayB (k, m, z) = bo) (w : World) : Calls Try.prog 16 #[.agg #[.int .i64 k, .int .i64 m, .int .i64 z]] w fun e w' => e = .returned (.int .i64 (mulE bo)) ∧ Below w.heap.size w w' := by
  obtain ⟨o, ho⟩ : ∃ o, o = (Obj.cells #[.int .i64 k, .int .i64 m, .int .i64 z] 29) := ⟨_, rfl⟩
  have tA := Three.new w (.int .i64 k) (.int .i64 m) (.int .i64 z) 29
  have hbe := (Below.refl w.heap.size w).alloc (Nat.le_refl _) (.cells #[.int .i64 k, .int .i64 m, .int .i64 z] 29)
  rw [← ho] at tA hbe
  have HB := Lib.hid hbe
  obtain ⟨a0, a1, a2, _, _, _⟩ := tA
  rw [ho] at a0 a1 a2
  clear hbe
  go_enter Try.func16, Try.ntmps16
  go_wp2_with fail
  rw [← ho]
  refine (may_any k m z _).mono ?_
  rintro e w1 ⟨rfl, hb1⟩
  have HB1 := Lib.hid (HB.out.trans (hb1.mono HB.out.size))
  clear hb1 a0 a1 a2 ho HB
  rw [hbo]
  clear hbo
  cases bo
  · go_wp2_with fail
    go_ret
    exact ⟨rfl, HB1.out⟩
  · go_wp2_with fail
    go_ret
    exact ⟨rfl, HB1.out⟩

set_option maxRecDepth 100000 in
theorem fieldPow_any (a n : Nat) (w : World) (ha : a < 256) (hn : n ≤ 9223372036854775807) :
    Calls Try.prog 52 #[.int .u8 (a : Int), .int .i64 (n : Int)] w fun e w' => e = .returned (.tuple #[.int .u8 ((Gf.pow a n : Nat) : Int), .int .i64 0]) ∧ w = w' := by
  have h0 : decide ((n : Int) < 0) = false := by simp
  have HC := Lib.hid (raised_any (a : Int) (n : Int) w (by omega) (by omega) (by omega) (by omega))
  go_enter Try.func52, Try.ntmps52
  go_wp2_with fail
  refine HC.out.mono ?_
  rintro e w1 ⟨rfl, rfl⟩
  rw [gp_nat]
  go_wp2_with fail
  go_ret2
  exact ⟨rfl, rfl⟩

set_option maxRecDepth 100000 in
theorem exp_any (n : Nat) (w : World) (hn : n ≤ 9223372036854775807) :
    Calls Try.prog 51 #[.int .i64 (n : Int)] w fun e w' => e = .returned (.tuple #[.int .u8 ((Gf.pow 2 n : Nat) : Int), .int .i64 0]) ∧ w = w' := by
  have HC := Lib.hid (fieldPow_any 2 n w (by omega) hn)
  go_enter Try.func51, Try.ntmps51
  go_wp2_with fail
  refine HC.out.mono ?_
  rintro e w1 ⟨rfl, rfl⟩
  go_wp2_with fail
  go_ret2
  exact ⟨rfl, rfl⟩

/-- The numbers of the first rows. -/
def firstL (n : Nat) : List Int := (List.range n).map Int.ofNat
theorem firstL_len (n : Nat) : (firstL n).length = n := by simp [firstL]
theorem firstL_succ (n : Nat) : firstL (n + 1) = firstL n ++ [(n : Int)] := by simp [firstL, List.range_succ]
theorem firstL_mem {n : Nat} {z : Int} (h : z ∈ firstL n) : 0 ≤ z ∧ z < (n : Int) := by
  obtain ⟨a, h1, rfl⟩ := List.mem_map.1 h
  have := List.mem_range.1 h1
  constructor
  · exact Int.natCast_nonneg a
  · exact Int.ofNat_lt.2 this
/-- Numbers, as they lie. -/
def i64s (l : List Int) : List Value := l.map (Value.int .i64)
theorem numsIn_own {w : World} {B : Nat} {e : TypeId} {v : Value} {l : List Int} (h : w.ownsRow B e 1 v l.length (i64s l)) (hb : ∀ n ∈ l, -9223372036854775808 ≤ n ∧ n ≤ 9223372036854775807) (hl : l.length ≤ 9223372036854775807) : NumsIn w v l := by
  obtain ⟨hlen, A, c, rfl, hr⟩ := RowIs.of_own h
  refine ⟨hb, ?_⟩
  by_cases h0 : l.length = 0
  · left
    exact ⟨List.eq_nil_of_length_eq_zero h0, A, c, by rw [h0]⟩
  · right
    obtain ⟨b, o, rfl, hbl, hcell⟩ := hr (by omega)
    refine ⟨b, o, c, rfl, by intro e; rw [e] at h0; exact h0 rfl, hl, hbl, fun i hi => ?_⟩
    refine hcell i _ ?_
    simp [i64s, List.getD, hi]

theorem infoI64 : (Try.prog.info? 3).map (fun i => (i.zero, i.size, i.bytes)) = some (some (.int .i64 0), 1, 8) := by kernel_rfl
theorem i64s_snoc (l : List Int) (z : Int) : i64s (l ++ [z]) = i64s l ++ [.int .i64 z] := by simp [i64s]

set_option maxRecDepth 100000 in
set_option maxHeartbeats 1000000 in
theorem first_any (n : Nat) (w : World) (hn : n ≤ 1000) :
    Calls Try.prog 53 #[.int .i64 (n : Int)] w fun e w' => ∃ r, e = .returned r ∧ w'.ownsRow w.heap.size 3 1 r n (i64s (firstL n)) ∧ Below w.heap.size w w' := by
  obtain ⟨i0, hi, hz0, hz1, hz2⟩ := info_parts infoI64
  go_enter Try.func53, Try.ntmps53
  go_wp2_with fail
  go_loopw [2, 5] (fun l i wr => ∃ k : Nat, i = .int .i64 k ∧ k ≤ n ∧ wr.ownsRow w.heap.size 3 1 l k (i64s (firstL k)) ∧ Below w.heap.size w wr) (fun _ i _ => n - (intOf i).toNat)
  case atStart => exact ⟨0, rfl, by omega, World.ownsRow_nil _ _ _ _, Below.refl _ _⟩
  case round =>
    obtain ⟨k, rfl, hk, hown, hwr⟩ := hrel
    by_cases hlt : k < n
    · have hd : decide ((k : Int) < (n : Int)) = true := by simp; omega
      have HT := Lib.hid (firstL_succ k)
      go_wp2_with (first | (at_builtin; refine wpList_append_own _ rfl _ _ 52 rfl w.heap.size 3 i0 (.int .i64 0) 1 8 Try.underlying52 hi hz0 hz1 hz2 rfl (by decide) _ _ _ rfl (hown.alloc _) ⟨wr.heap.size, 0, none⟩ 1 1 [.int .i64 (k : Int)] rfl rfl ?c1 ?c2 ?c3 ?c4 ?c5 ?_) | go_in)
      case c1 => exact cell_one_new' _ _ _
      case c2 => intro u hu; simp at hu; subst hu; rfl
      case c3 => unfold maxLen; omega
      case c4 => omega
      case c5 => have := hwr.size; simp; omega
      all_goals
        intro v' w1 hown' hgrow _
        have hbx := append_below hwr hown hgrow
        clear hown hgrow hwr
        go_wp2_with fail
        go_roundw
        case rel => exact ⟨k + 1, by go_num, by omega, by rw [HT.out, i64s_snoc]; exact hown', hbx⟩
        case measure => simp [intOf]; omega
    · have hke : k = n := by omega
      have hd : decide ((k : Int) < (n : Int)) = false := by simp; omega
      rw [hke] at hown
      clear hke
      go_wp2_with fail
      all_goals
        go_ret
        exact ⟨_, rfl, hown, hwr⟩
end Go.Proofs.Ytdagnmhioellhaa

/- The generator, plainly: any K of its rows have a full rank. -/

namespace Go.Proofs.Ytdagnmhioellhaa
set_option linter.unusedVariables false
set_option linter.unusedSimpArgs false

/-- Row i holds the powers of 2 multiplied i times. -/
def vandL (n K : Nat) : List Nat := (List.range (n * K)).map fun p => Gf.pow (Gf.pow 2 (p / K)) (p % K)
theorem vandL_len (n K : Nat) : (vandL n K).length = n * K := by simp [vandL]
theorem vandL_lt (n K : Nat) : ∀ x ∈ vandL n K, x < 256 := by
  intro x hx
  obtain ⟨p, _, rfl⟩ := List.mem_map.1 hx
  exact Gf.pow_lt _ _
theorem vandL_at {n K i k : Nat} (hi : i < n) (hk : k < K) : (vandL n K).getD (i * K + k) 0 = Gf.pow (Gf.pow 2 i) k := by
  have hp : i * K + k < n * K := by have := row_fits (c := K) hi; omega
  have hd : (i * K + k) / K = i := by rw [Nat.mul_comm, Nat.mul_add_div (by omega), Nat.div_eq_of_lt hk, Nat.add_zero]
  have hm : (i * K + k) % K = k := by rw [Nat.mul_comm, Nat.mul_add_mod, Nat.mod_eq_of_lt hk]
  have e : (vandL n K).getD (i * K + k) 0 = Gf.pow (Gf.pow 2 ((i * K + k) / K)) ((i * K + k) % K) := by simp [vandL, List.getD, hp]
  rw [e, hd, hm]
theorem vandL_ent {n K i k : Nat} (hi : i < n) (hk : k < K) : ent K (vandL n K) i k = Gf.pow (Gf.pow 2 i) k := vandL_at hi hk

/-- A list filled up to a place, 0 behind. -/
def fillL (L : List Nat) (p : Nat) : List Nat := L.take p ++ List.replicate (L.length - p) 0
theorem fillL_zero (L : List Nat) : fillL L 0 = List.replicate L.length 0 := by simp [fillL]
theorem fillL_all (L : List Nat) : fillL L L.length = L := by simp [fillL]
theorem fillL_len {L : List Nat} {p : Nat} (h : p ≤ L.length) : (fillL L p).length = L.length := by simp [fillL]; omega
theorem fillL_set {L : List Nat} {p : Nat} (h : p < L.length) : (fillL L p).set p (L.getD p 0) = fillL L (p + 1) := by
  apply List.ext_getElem?
  intro i
  rw [List.getElem?_set, fillL_len (by omega)]
  unfold fillL
  by_cases hi : p = i
  · subst hi
    rw [if_pos rfl, if_pos h, List.getElem?_append_left (by simp; omega)]
    simp [List.getD, h]
  · rw [if_neg hi]
    by_cases hlt : i < p
    · rw [List.getElem?_append_left (by simp; omega), List.getElem?_append_left (by simp; omega)]
      simp [List.getElem?_take, hlt, show i < p + 1 by omega]
    · rw [List.getElem?_append_right (by simp; omega), List.getElem?_append_right (by simp; omega)]
      simp only [List.length_take, List.getElem?_replicate]
      have e1 : min p L.length = p := by omega
      have e2 : min (p + 1) L.length = p + 1 := by omega
      rw [e1, e2]
      by_cases hl : i < L.length
      · rw [if_pos (by omega), if_pos (by omega)]
      · rw [if_neg (by omega), if_neg (by omega)]

theorem pick_all' {ms : List Nat} {c : Nat} {zs : List Int} (h : ∀ x ∈ ms, x < 256) : ∀ x ∈ pickL ms c zs, x < 256 := by
  intro x hx
  obtain ⟨z, _, hz⟩ := List.mem_flatMap.1 hx
  exact rowN_lt h x hz
theorem pick_ent {ms : List Nat} {c : Nat} : ∀ {zs : List Int}, (∀ z ∈ zs, (z.toNat + 1) * c ≤ ms.length) → ∀ {i j : Nat}, i < zs.length → j < c → ent c (pickL ms c zs) i j = ent c ms (zs.getD i 0).toNat j
  | [], _, i, j, h, _ => by simp at h
  | z :: zs, hz, i, j, hi, hj => by
    have hl : (rowN ms c z.toNat).length = c := rowN_length (hz z (by simp))
    have e : pickL ms c (z :: zs) = rowN ms c z.toNat ++ pickL ms c zs := rfl
    rw [ent, e]
    cases i with
    | zero =>
      rw [Nat.zero_mul, Nat.zero_add, List.getD_eq_getElem?_getD, List.getElem?_append_left (by omega), ← List.getD_eq_getElem?_getD, rowN_get hj]
      rfl
    | succ i =>
      have h1 : (i + 1) * c + j = c + (i * c + j) := by rw [Nat.succ_mul]; omega
      rw [h1, List.getD_eq_getElem?_getD, List.getElem?_append_right (by omega), hl, Nat.add_sub_cancel_left, ← List.getD_eq_getElem?_getD]
      have := pick_ent (zs := zs) (fun y hy => hz y (by simp [hy])) (i := i) (j := j) (by simp at hi; omega) hj
      rw [ent] at this
      rw [this]
      rfl

/-- So many numbers of rows, each once. -/
structure RowsOk (n K : Nat) (zs : List Int) : Prop where
  len : zs.length = K
  nd : zs.Nodup
  lt : ∀ z ∈ zs, 0 ≤ z ∧ z < (n : Int)
theorem RowsOk.fits {n K : Nat} {zs : List Int} (h : RowsOk n K zs) {ms : List Nat} (hl : ms.length = n * K) : ∀ z ∈ zs, (z.toNat + 1) * K ≤ ms.length := by
  intro z hz
  have := h.lt z hz
  rw [hl]
  exact Nat.mul_le_mul_right K (by omega)
theorem RowsOk.at_ {n K : Nat} {zs : List Int} (h : RowsOk n K zs) {i : Nat} (hi : i < K) : (zs.getD i 0).toNat < n := by
  have hi' : i < zs.length := by rw [h.len]; exact hi
  have := h.lt (zs.getD i 0) (by rw [← List.getElem_eq_getD (h := hi')]; exact List.getElem_mem _)
  omega
/-- The points of these rows. -/
def pts (zs : List Int) : List Nat := zs.map fun z => Gf.pow 2 z.toNat
theorem pts_len (zs : List Int) : (pts zs).length = zs.length := by simp [pts]
theorem pts_lt (zs : List Int) : ∀ x ∈ pts zs, x < 256 := by
  intro x hx
  obtain ⟨z, _, rfl⟩ := List.mem_map.1 hx
  exact Gf.pow_lt _ _
theorem pts_at {zs : List Int} {i : Nat} (h : i < zs.length) : (pts zs).getD i 0 = Gf.pow 2 (zs.getD i 0).toNat := by simp [pts, List.getD, h]
theorem pts_nodup {n K : Nat} {zs : List Int} (h : RowsOk n K zs) (hn : n ≤ 200) : (pts zs).Nodup := by
  have hnd := h.nd
  have hlt := h.lt
  clear h
  induction zs with
  | nil => exact List.nodup_nil
  | cons z zs ih =>
    obtain ⟨h1, h2⟩ := List.nodup_cons.1 hnd
    refine List.nodup_cons.2 ⟨fun hm => ?_, ih h2 (fun y hy => hlt y (by simp [hy]))⟩
    obtain ⟨y, hy, he⟩ := List.mem_map.1 hm
    have b1 := hlt z (by simp)
    have b2 := hlt y (by simp [hy])
    dsimp only at he
    rw [Gf.pow_two, Gf.pow_two] at he
    have := Gf.up_inj (by omega) (by omega) he
    have e : y = z := by omega
    exact h1 (e ▸ hy)
theorem pick_right {n K : Nat} {zs : List Int} (h : RowsOk n K zs) (hn : n ≤ 200) {i j : Nat} (hi : i < K) (hj : j < K) :
    dot K (ent K (pickL (vandL n K) K zs) i) (fun k => lagr (pts zs) k j) = if i = j then 1 else 0 := by
  have hz := h.fits (vandL_len n K)
  have hl := h.len
  have e := lagr_right (xs := pts zs) (pts_lt zs) (pts_nodup h hn) (i := i) (j := j) (by rw [pts_len, hl]; exact hi) (by rw [pts_len, hl]; exact hj)
  rw [pts_len, hl] at e
  rw [← e]
  refine dot_congr (fun k hk => ?_) (fun _ _ => rfl)
  rw [pick_ent hz (by rw [hl]; exact hi) hk, vandL_ent (h.at_ hi) hk, pts_at (by rw [hl]; exact hi)]
theorem rank_pick {n K : Nat} {zs : List Int} (h : RowsOk n K zs) (hn : n ≤ 200) : rankL K K (pickL (vandL n K) K zs) = K :=
  rank_right (by rw [rowL_length (h.fits (vandL_len n K)), h.len]) (pick_all' (vandL_lt n K)) (fun k => lagr_lt k) (fun i j hi hj => pick_right h hn hi hj)

theorem firstOk {n K : Nat} (h : K ≤ n) : RowsOk n K (firstL K) := by
  refine ⟨firstL_len K, ?_, fun z hz => ?_⟩
  · unfold firstL
    exact List.Pairwise.map _ (fun a b hab e => hab (Int.ofNat.inj e)) List.nodup_range
  · have := firstL_mem hz
    omega
/-- The first rows. -/
def topL (n K : Nat) : List Nat := pickL (vandL n K) K (firstL K)
theorem topL_len {n K : Nat} (h : K ≤ n) : (topL n K).length = K * K := by rw [topL, rowL_length ((firstOk h).fits (vandL_len n K)), firstL_len]
theorem topL_lt (n K : Nat) : ∀ x ∈ topL n K, x < 256 := pick_all' (vandL_lt n K)
theorem topL_rank {n K : Nat} (h : K ≤ n) (hn : n ≤ 200) : rankL K K (topL n K) = K := rank_pick (firstOk h) hn
/-- The generator. -/
def genL (n K : Nat) : List Nat := timesL (vandL n K) (invO K (topL n K)) n K K
theorem genL_len (n K : Nat) : (genL n K).length = n * K := timesL_length _ _ _ _ _
theorem genL_lt (n K : Nat) : ∀ x ∈ genL n K, x < 256 := by
  intro x hx
  obtain ⟨p, _, rfl⟩ := List.mem_map.1 hx
  exact dotK_lt (vandL_lt n K) _ _ _ _ _
theorem dot_three {n K : Nat} {u : Nat → Nat} {A B : List Nat} {j : Nat} (hu : B8 u) (hA : ∀ x ∈ A, x < 256) (hB : ∀ k, B8 (fun j => ent K B k j)) :
    dot K (fun t => dot K u (fun k => ent K A k t)) (fun t => ent K B t j) = dot K u (fun k => dot K (ent K A k) (fun t => ent K B t j)) :=
  dot_dot hu (fun k => ent_lt hA k) (fun t => hB t j) K K
theorem rank_gen {n K : Nat} {zs : List Int} (h : RowsOk n K zs) (hK : K ≤ n) (hn : n ≤ 200) : rankL K K (pickL (genL n K) K zs) = K := by
  have hz := h.fits (genL_len n K)
  have hzv := h.fits (vandL_len n K)
  have bT := topL_lt n K
  have lT := topL_len hK
  have bI := invO_all lT bT
  have hI := inv_left lT bT (topL_rank hK hn)
  have hY : ∀ k, B8 (fun j => lagr (pts zs) k j) := fun k => lagr_lt k
  have hYc : ∀ j, B8 (fun k => lagr (pts zs) k j) := fun j k => lagr_lt k j
  have bV : ∀ i, B8 (ent K (pickL (vandL n K) K zs) i) := fun i => ent_lt (pick_all' (vandL_lt n K)) i
  refine rank_right (Y := fun k j => dot K (ent K (topL n K) k) (fun t => lagr (pts zs) t j)) (by rw [rowL_length hz, h.len]) (pick_all' (genL_lt n K)) (fun k j => dot_lt (ent_lt bT k) K) (fun i j hi hj => ?_)
  rw [← pick_right h hn hi hj]
  -- row i of the generator is row i of the powers times the inverse
  have e1 : ∀ t, t < K → ent K (pickL (genL n K) K zs) i t = dot K (ent K (pickL (vandL n K) K zs) i) (fun k => ent K (invO K (topL n K)) k t) := fun t ht => by
    rw [pick_ent hz (by rw [h.len]; exact hi) ht, genL, times_ent (h.at_ hi) ht]
    exact dot_congr (fun k hk => (pick_ent hzv (by rw [h.len]; exact hi) hk).symm) (fun _ _ => rfl)
  rw [dot_congr (u' := fun t => dot K (ent K (pickL (vandL n K) K zs) i) (fun k => ent K (invO K (topL n K)) k t)) (v' := fun t => dot K (ent K (topL n K) t) (fun s => lagr (pts zs) s j)) e1 (fun _ _ => rfl),
    dot_dot (bV i) (fun k => ent_lt bI k) (fun t => dot_lt (ent_lt bT t) K) K K]
  refine dot_congr (fun _ _ => rfl) (fun k hk => ?_)
  rw [← dot_dot (ent_lt bI k) (fun t => ent_lt bT t) (hYc j) K K,
    dot_congr (u' := fun s => if k = s then 1 else 0) (v' := fun s => lagr (pts zs) s j) (fun s hs => hI k s hk hs) (fun _ _ => rfl), dot_one_left (hYc j) hk]
end Go.Proofs.Ytdagnmhioellhaa
