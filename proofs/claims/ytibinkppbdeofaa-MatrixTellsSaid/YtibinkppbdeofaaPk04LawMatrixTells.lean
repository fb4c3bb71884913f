/- Texts that the code made, or that came in; copies of lists of texts. -/
import Derived.Test.YtibinkppbdeofaaPk00LawMatrixTells
import Derived.StillTailTactics
import Derived.BigQuiet
import Derived.BigRegion
import Derived.OwnWalk
import Derived.Test.YtibinkppbdeofaaRows
import Derived.WalkKit
import Derived.WalkSpells
import Derived.WalkLawsBesides
import Derived.Handy
import Derived.Lib.Hide
import Derived.Test.YtibinkppbdeofaaPk02LawMatrixTells
import Derived.Test.YtibinkppbdeofaaPk03LawMatrixTells
namespace Go.Proofs.Ytibinkppbdeofaa
open Go.ChangeShapes Go.WideShapes Go.ChangeAt Go.RowKit Go.Joins
set_option linter.unusedVariables false
set_option linter.unusedSimpArgs false

theorem cell_one_new' (w : World) (a : Value) (t : TypeId) : ∀ j u, [a][j]? = some u → (w.alloc (.cells #[a] t)).cell? ((⟨w.heap.size, 0, none⟩ : Addr).add j) = some u := by
  intro j u hj
  rw [Go.WideShapes.add_plain, Nat.zero_add, cell_of_row _ _ _ _ _ _ (heap_alloc_new w _)]
  simpa using hj
theorem infoStr6 : (Try.prog.info? 9).map (fun i => (i.zero, i.size, i.bytes)) = some (some (.string ByteArray.empty), 1, 16) := by kernel_rfl
/-- A row that the code owns stands as long as nothing that was there is changed. -/
theorem own_below {w w' : World} {B k n : Nat} {e : TypeId} {v : Value} {xs : List Value} (h : w.ownsRow B e k v n xs) (hb : Below w.heap.size w w') : w'.ownsRow B e k v n xs := by
  refine ⟨h.1, ?_⟩
  rcases h.2 with h2 | ⟨g, cap, cur, h1, h2, h3, h4⟩
  · exact Or.inl h2
  · refine Or.inr ⟨g, cap, cur, h1, h2, ?_, h4⟩
    rw [hb.block g (Array.getElem?_eq_some_iff.1 h3).1]; exact h3
theorem own_shape {w : World} {B k n : Nat} {e : TypeId} {v : Value} {xs : List Value} (h : w.ownsRow B e k v n xs) : ∃ A c, v = .slice A n c := by
  rcases h.2 with ⟨rfl, rfl⟩ | ⟨g, cap, cur, rfl, _⟩
  · exact ⟨_, _, rfl⟩
  · exact ⟨_, _, rfl⟩
/-- Texts that the code made. -/
def Strs6 (w : World) (v : Value) (L : List ByteArray) : Prop := RowIs w v L.length 1 (L.map Value.string)
theorem Strs6.at_ {w : World} {A : Option Addr} {c : Nat} {L : List ByteArray} (h : Strs6 w (.slice A L.length c) L) {k : Nat} (hk : k < L.length) :
    ∃ b o, A = some ⟨b, o, none⟩ ∧ b < w.heap.size ∧ w.cell? ⟨b, o + k, none⟩ = some (.string (L[k]'hk)) := by
  obtain ⟨b, o, c', e, hlt, hc⟩ := RowIs.at_ h hk
  cases e
  refine ⟨b, o, rfl, hlt, ?_⟩
  obtain ⟨u, h1, h2⟩ := hc 0 (by omega)
  simp [hk] at h1
  rw [Nat.mul_one, Nat.add_zero] at h2
  rw [h2, h1]
theorem cell_three_new (w : World) (a b c : Value) (t : TypeId) : ∀ j u, [a, b, c][j]? = some u → (w.alloc (.cells #[a, b, c] t)).cell? ((⟨w.heap.size, 0, none⟩ : Addr).add j) = some u := by
  intro j u hj
  rw [Go.WideShapes.add_plain, Nat.zero_add, cell_of_row _ _ _ _ _ _ (heap_alloc_new w _)]
  simpa using hj
theorem take_snoc {L : List ByteArray} {k : Nat} {s : ByteArray} (h : k < L.length) (hs : s = L.getD k ByteArray.empty) : L.take (k + 1) = L.take k ++ [s] := by
  rw [hs, List.take_add_one]
  simp [List.getD, h]

theorem Strs6.below {w w' : World} {v : Value} {l : List ByteArray} (h : Strs6 w v l) (hb : Below w.heap.size w w') : Strs6 w' v l := RowIs.below h hb
theorem Strs6.shape {w : World} {v : Value} {l : List ByteArray} (h : Strs6 w v l) : ∃ A c, v = .slice A l.length c := by
  obtain ⟨_, A, c, rfl, _⟩ := h
  exact ⟨A, c, rfl⟩
/-- What came in, too. -/
theorem TextsIn.row {w : World} {v : Value} {ss : List ByteArray} (h : TextsIn w v ss) : Strs6 w v ss := by
  obtain ⟨p, cap, rfl, _, _, hS⟩ := h
  refine ⟨by simp, p, cap, rfl, fun hn => ?_⟩
  obtain ⟨b, off, hp, hlt, _⟩ := hS.2 0 hn
  subst hp
  refine ⟨b, off, rfl, hlt, fun j u hu => ?_⟩
  have hj : j < ss.length := by simpa using (List.getElem?_eq_some_iff.1 hu).1
  obtain ⟨b', off', hp', _, hc⟩ := hS.2 j hj
  cases hp'
  rw [hc, ← hu]
  simp [List.getD, hj]
theorem Strs6.take {w : World} {A : Option Addr} {c c' n : Nat} {L : List ByteArray} (h : Strs6 w (.slice A L.length c) L) (hn : n ≤ L.length) : Strs6 w (.slice A n c') (L.take n) := by
  obtain ⟨_, A', c1, e, hc⟩ := h
  cases e
  have hl : (L.take n).length = n := by simp; omega
  refine ⟨by simp, A, c', by rw [hl], fun h0 => ?_⟩
  rw [hl] at h0
  obtain ⟨b, o, rfl, hlt, hcell⟩ := hc (by omega)
  refine ⟨b, o, rfl, hlt, fun j u hu => hcell j u ?_⟩
  rw [List.getElem?_map, List.getElem?_take] at hu
  rw [List.getElem?_map]
  split at hu
  · exact hu
  · simp at hu

set_option maxRecDepth 100000 in
set_option maxHeartbeats 1000000 in
theorem copyStrs_any (v : Value) (ss : List ByteArray) (w : World) (h : TextsIn w v ss) (hl : ss.length ≤ 6000) :
    Calls Try.prog 31 #[v] w fun e w' => ∃ r, e = .returned r ∧ w'.ownsRow w.heap.size 9 1 r ss.length (ss.map Value.string) ∧ Below w.heap.size w w' := by
  obtain ⟨i0, hi, hz0, hz1, hz2⟩ := info_parts infoStr6
  obtain ⟨p, cap, rfl, h16, hs, hS⟩ := h
  have HS := Lib.hid hS
  have HB := Lib.hid hs
  clear hS hs
  go_enter Try.func31, Try.ntmps31
  go_wp2_with fail
  go_loopw [3, 4] (fun l i wr => ∃ k : Nat, i = .int .i64 k ∧ k ≤ ss.length ∧ wr.ownsRow w.heap.size 9 1 l k ((ss.take k).map Value.string) ∧ Below w.heap.size w wr) (fun _ i _ => ss.length - (intOf i).toNat)
  case atStart => exact ⟨0, rfl, by omega, World.ownsRow_nil _ _ _ _, Below.refl _ _⟩
  case round =>
    obtain ⟨k, rfl, hk, hown, hwr⟩ := hrel
    by_cases hlt : k < ss.length
    · obtain ⟨b, off, s, rfl, hsz, HE, hcell⟩ := text_at (HS.out.below hwr) HB.out hlt
      have HT := Lib.hid (take_snoc hlt HE.out)
      clear HE
      go_wp2_with (first | (at_builtin; refine wpList_append_own _ rfl _ _ 24 rfl w.heap.size 9 i0 (.string ByteArray.empty) 1 16 Try.underlying24 hi hz0 hz1 hz2 rfl (by decide) _ _ _ rfl (hown.alloc _) ⟨wr.heap.size, 0, none⟩ 1 1 [.string s] rfl rfl ?c1 ?c2 ?c3 ?c4 ?c5 ?_) | go_in)
      case c1 => exact cell_one_new' _ _ _
      case c2 => intro u hu; simp at hu; subst hu; rfl
      case c3 => unfold maxLen; omega
      case c4 => omega
      case c5 => have := hwr.size; simp; omega
      all_goals
        intro v' w1 hown' hgrow _
        have hbx := append_below hwr hown hgrow
        clear hown hgrow hwr hcell
        go_wp2_with fail
        go_roundw
        case rel => exact ⟨k + 1, by go_num, by omega, by rw [HT.out, List.map_append, List.map_take]; exact hown', hbx⟩
        case measure => simp [intOf]; omega
    · have hke : k = ss.length := by omega
      rw [hke, List.take_length] at hown
      clear hke
      go_wp2_with fail
      all_goals
        go_ret
        exact ⟨_, rfl, hown, hwr⟩
end Go.Proofs.Ytibinkppbdeofaa

/- Whether lanes may be: the code's way and the page's, walked. -/

namespace Go.Proofs.Ytibinkppbdeofaa
open Go.ChangeShapes Go.WideShapes Go.ChangeAt Go.RowKit Go.Joins
set_option linter.unusedVariables false
set_option linter.unusedSimpArgs false

/-- What is wrong with some lanes. -/
def mayGo (f : Nat) : List ByteArray → Int → Int
  | [], e => e
  | s :: r, e => if 8192 < s.size then 2 else mayGo f r (if s.size = f then e else 1)
def mayN (L : List ByteArray) : Int := mayGo (L.getD 0 ByteArray.empty).size L 0

set_option maxRecDepth 100000 in
set_option maxHeartbeats 1000000 in
theorem may_any (v : Value) (L : List ByteArray) (w : World) (h : Strs6 w v L) (hl : L.length ≤ 100000) :
    Calls Try.prog 52 #[v] w fun e w' => e = .returned (.int .i64 (mayN L)) ∧ Below w.heap.size w w' := by
  obtain ⟨A, cap, rfl⟩ := h.shape
  have HR := Lib.hid h
  clear h
  go_enter Try.func52, Try.ntmps52
  go_wp2_with fail
  go_loopw [3, 8] (fun x i wr => ∃ (k : Nat) (ev : Int), i = .int .i64 k ∧ x = .int .i64 ev ∧ k ≤ L.length ∧ Hid (mayGo (L.getD 0 ByteArray.empty).size (L.drop k) ev = mayN L) ∧ Below w.heap.size w wr) (fun _ i _ => L.length - (intOf i).toNat)
  case atStart => exact ⟨0, 0, rfl, rfl, by omega, rfl, Below.refl _ _⟩
  case round =>
    obtain ⟨k, ev, rfl, rfl, hk, HM, hwr⟩ := hrel
    by_cases hlt : k < L.length
    · obtain ⟨b, o, rfl, hbl, hcell⟩ := (HR.out.below hwr).at_ hlt
      obtain ⟨b', o', eA, _, hcell0⟩ := (HR.out.below hwr).at_ (k := 0) (by omega)
      cases eA
      rw [Nat.add_zero] at hcell0
      obtain ⟨s, hs⟩ : ∃ s, s = L[k]'hlt := ⟨_, rfl⟩
      obtain ⟨f, hf⟩ : ∃ f, f = L[0]'(by omega) := ⟨_, rfl⟩
      rw [← hs] at hcell
      rw [← hf] at hcell0
      have hM := HM.out
      rw [List.drop_eq_getElem_cons hlt, ← hs, ← List.getElem_eq_getD (h := (by omega : 0 < L.length)), ← hf, mayGo] at hM
      have i0 : (0 : Int) ≤ (k : Int) := by omega
      have i1 : (k : Int) < (L.length : Int) := by omega
      have i2 : (0 : Int) < (L.length : Int) := by omega
      clear hs HM
      by_cases h8 : 8192 < s.size
      · rw [if_pos h8] at hM
        have HN := Lib.hid hM
        clear hM hf
        have hd : decide ((8192 : Int) < (s.size : Int)) = true := by simp; omega
        go_wp2_with fail
        go_ret
        exact ⟨by rw [← HN.out]; rfl, hwr⟩
      · rw [if_neg h8] at hM
        have hd : decide ((8192 : Int) < (s.size : Int)) = false := by simp; omega
        have hff : (L.getD 0 ByteArray.empty).size = f.size := by rw [hf, ← List.getElem_eq_getD (h := (by omega : 0 < L.length))]
        by_cases he : s.size = f.size
        · rw [if_pos he] at hM
          have HN : Hid (mayGo (L.getD 0 ByteArray.empty).size (L.drop (k + 1)) ev = mayN L) := by rw [Hid, hff]; exact hM
          have hne : ((s.size : Int) != (f.size : Int)) = false := by rw [he]; simp
          clear hM hf hff he
          go_wp2_with fail
          go_roundw
          case rel => exact ⟨k + 1, _, by go_num, rfl, by omega, HN, hwr⟩
          case measure => simp [intOf]; omega
        · rw [if_neg he] at hM
          have HN : Hid (mayGo (L.getD 0 ByteArray.empty).size (L.drop (k + 1)) 1 = mayN L) := by rw [Hid, hff]; exact hM
          have hne : ((s.size : Int) != (f.size : Int)) = true := by rw [bne_iff_ne]; omega
          clear hM hf hff he
          go_wp2_with fail
          go_roundw
          case rel => exact ⟨k + 1, _, by go_num, rfl, by omega, HN, hwr⟩
          case measure => simp [intOf]; omega
    · have hke : k = L.length := by omega
      have hM := HM.out
      rw [hke, List.drop_length, mayGo] at hM
      have HN := Lib.hid hM
      clear hke hM
      go_wp2_with fail
      all_goals
        go_ret
        exact ⟨by rw [← HN.out]; rfl, hwr⟩

set_option maxRecDepth 100000 in
set_option maxHeartbeats 1000000 in
theorem refLanes_any (v : Value) (L : List ByteArray) (w : World) (h : Strs6 w v L) (hl : L.length ≤ 100000) :
    Calls Try.prog 33 #[v] w fun e w' => e = .returned (.int .i64 (mayN L)) ∧ Below w.heap.size w w' := by
  obtain ⟨A, cap, rfl⟩ := h.shape
  have HR := Lib.hid h
  clear h
  go_enter Try.func33, Try.ntmps33
  go_wp2_with fail
  go_loopw [3, 4] (fun x i wr => ∃ (k : Nat) (ev : Int), i = .int .i64 k ∧ x = .int .i64 ev ∧ k ≤ L.length ∧ Hid (mayGo (L.getD 0 ByteArray.empty).size (L.drop k) ev = mayN L) ∧ Below w.heap.size w wr) (fun _ i _ => L.length - (intOf i).toNat)
  case atStart => exact ⟨0, 0, rfl, rfl, by omega, rfl, Below.refl _ _⟩
  case round =>
    obtain ⟨k, ev, rfl, rfl, hk, HM, hwr⟩ := hrel
    by_cases hlt : k < L.length
    · obtain ⟨b, o, rfl, hbl, hcell⟩ := (HR.out.below hwr).at_ hlt
      obtain ⟨b', o', eA, _, hcell0⟩ := (HR.out.below hwr).at_ (k := 0) (by omega)
      cases eA
      rw [Nat.add_zero] at hcell0
      obtain ⟨s, hs⟩ : ∃ s, s = L[k]'hlt := ⟨_, rfl⟩
      obtain ⟨f, hf⟩ : ∃ f, f = L[0]'(by omega) := ⟨_, rfl⟩
      rw [← hs] at hcell
      rw [← hf] at hcell0
      have hM := HM.out
      rw [List.drop_eq_getElem_cons hlt, ← hs, ← List.getElem_eq_getD (h := (by omega : 0 < L.length)), ← hf, mayGo] at hM
      have i0 : (0 : Int) ≤ (k : Int) := by omega
      have i1 : (k : Int) < (L.length : Int) := by omega
      have i2 : (0 : Int) < (L.length : Int) := by omega
      clear hs HM
      by_cases h8 : 8192 < s.size
      · rw [if_pos h8] at hM
        have HN := Lib.hid hM
        clear hM hf
        have hd : decide ((8192 : Int) < (s.size : Int)) = true := by simp; omega
        go_wp2_with fail
        go_ret
        exact ⟨by rw [← HN.out]; rfl, hwr⟩
      · rw [if_neg h8] at hM
        have hd : decide ((8192 : Int) < (s.size : Int)) = false := by simp; omega
        have hff : (L.getD 0 ByteArray.empty).size = f.size := by rw [hf, ← List.getElem_eq_getD (h := (by omega : 0 < L.length))]
        by_cases he : s.size = f.size
        · rw [if_pos he] at hM
          have HN : Hid (mayGo (L.getD 0 ByteArray.empty).size (L.drop (k + 1)) ev = mayN L) := by rw [Hid, hff]; exact hM
          have hne : ((s.size : Int) != (f.size : Int)) = false := by rw [he]; simp
          clear hM hf hff he
          go_wp2_with fail
          go_quiet (fail)
          all_goals
            go_wp2_with fail
            go_roundw
            case rel => exact ⟨k + 1, _, by go_num, rfl, by omega, HN, below_drewN hwr _⟩
            case measure => simp [intOf]; omega
        · rw [if_neg he] at hM
          have HN : Hid (mayGo (L.getD 0 ByteArray.empty).size (L.drop (k + 1)) 1 = mayN L) := by rw [Hid, hff]; exact hM
          have hne : ((s.size : Int) != (f.size : Int)) = true := by rw [bne_iff_ne]; omega
          clear hM hf hff he
          go_wp2_with fail
          go_quiet (fail)
          all_goals
            go_wp2_with fail
            go_roundw
            case rel => exact ⟨k + 1, _, by go_num, rfl, by omega, HN, below_drewN hwr _⟩
            case measure => simp [intOf]; omega
    · have hke : k = L.length := by omega
      have hM := HM.out
      rw [hke, List.drop_length, mayGo] at hM
      have HN := Lib.hid hM
      clear hke hM
      go_wp2_with fail
      all_goals
        go_ret
        exact ⟨by rw [← HN.out]; rfl, hwr⟩
end Go.Proofs.Ytibinkppbdeofaa

/- Powers, the page's way and the code's; inverses; walked. -/

namespace Go.Proofs.Ytibinkppbdeofaa
open Go.RowKit
set_option linter.unusedVariables false
set_option linter.unusedSimpArgs false

theorem and1_i64_yes {n : Nat} (h : n ≤ 9223372036854775807) (e : (bits .and .i64 (n : Int) 1 == 1) = true) : n % 2 = 1 := by
  rw [bits_and1_i64 (by omega)] at e; have := beq_iff_eq.1 e; omega
theorem and1_i64_no {n : Nat} (h : n ≤ 9223372036854775807) (e : (bits .and .i64 (n : Int) 1 == 1) = false) : n % 2 ≠ 1 := by
  rw [bits_and1_i64 (by omega)] at e; have := beq_eq_false_iff_ne.1 e; omega

/-- The power of a byte, of integers. -/
def gp (a n : Int) : Int := ((Gf.pow a.toNat n.toNat : Nat) : Int)
theorem gp_nat (a n : Nat) : gp (a : Int) (n : Int) = ((Gf.pow a n : Nat) : Int) := by simp [gp]
theorem gp_bd (a n : Int) : 0 ≤ gp a n ∧ gp a n ≤ 255 := by
  have := Gf.pow_lt a.toNat n.toNat
  simp only [gp]; omega


set_option maxRecDepth 100000 in
set_option maxHeartbeats 400000 in
theorem refPow_any (a n : Int) (w : World) (ha : 0 ≤ a) (ha' : a ≤ 255) (hn : 0 ≤ n) (hn' : n ≤ 9223372036854775807) :
    Calls Try.prog 69 #[.int .u8 a, .int .i64 n] w fun e w' => e = .returned (.int .u8 (gp a n)) ∧ w = w' := by
  obtain ⟨a, rfl⟩ := Int.eq_ofNat_of_zero_le ha
  obtain ⟨n, rfl⟩ := Int.eq_ofNat_of_zero_le hn
  go_enter Try.func69, Try.ntmps69
  go_wp2
  go_loop [0,1,5] (fun a' n' x' => ∃ k m x : Nat, a' = .int .u8 k ∧ n' = .int .i64 m ∧ x' = .int .u8 x ∧ k < 256 ∧ x < 256 ∧ m ≤ 9223372036854775807 ∧ Hid (Gf.mul x (Gf.pow k m) = Gf.pow a n)) (fun _ n' _ => (intOf n').toNat)
  case atStart => exact ⟨a, n, 1, rfl, rfl, rfl, by omega, by omega, by omega, by simp [Hid, Gf.one_mul _ (Gf.pow_lt a n)]⟩
  case round =>
    obtain ⟨k, m, x, rfl, rfl, rfl, h1, h2, h3, H⟩ := hrel
    by_cases h0 : 0 < m
    · have hk := Gf.mul_lt (a := k) k h1
      have hx := Gf.mul_lt (a := x) k h2
      have HR : Hid (Gf.mul (if m % 2 = 1 then Gf.mul x k else x) (Gf.pow (Gf.mul k k) (m / 2)) = Gf.pow a n) := by rw [Hid, Gf.pow_round h1 h2]; exact H.out
      go_wp2_with (go_at_call 43; refine (refMul_any _ _ _ (by omega) (by omega) (by omega) (by omega)).mono ?_; rintro e w' ⟨rfl, rfl⟩)
      · have t1 := and1_i64_yes h3 (by assumption)
        simp only [t1, if_true] at HR
        go_round
        case rel => exact ⟨Gf.mul k k, m / 2, Gf.mul x k, by rw [gm_nat], by go_num, by rw [gm_nat], hk, hx, by omega, HR⟩
        case measure => simp [intOf]; omega
      · have t1 := and1_i64_no h3 (by assumption)
        simp only [t1, if_false] at HR
        go_round
        case rel => exact ⟨Gf.mul k k, m / 2, x, by rw [gm_nat], by go_num, rfl, hk, h2, by omega, HR⟩
        case measure => simp [intOf]; omega
    · obtain rfl : m = 0 := by omega
      have HN : Hid (x = Gf.pow a n) := by rw [Hid, ← H.out]; simp only [Gf.pow]; rw [Gf.mul_one x h2]
      clear H
      go_wp2
      go_ret
      refine ⟨?_, rfl⟩
      rw [gp_nat, ← HN.out]; rfl

set_option maxRecDepth 100000 in
set_option maxHeartbeats 400000 in
theorem raised_any (a n : Int) (w : World) (ha : 0 ≤ a) (ha' : a ≤ 255) (hn : 0 ≤ n) (hn' : n ≤ 9223372036854775807) :
    Calls Try.prog 67 #[.int .u8 a, .int .i64 n] w fun e w' => e = .returned (.int .u8 (gp a n)) ∧ w = w' := by
  obtain ⟨a, rfl⟩ := Int.eq_ofNat_of_zero_le ha
  obtain ⟨n, rfl⟩ := Int.eq_ofNat_of_zero_le hn
  go_enter Try.func67, Try.ntmps67
  go_wp2
  go_loop [0,1,5] (fun a' n' x' => ∃ k m x : Nat, a' = .int .u8 k ∧ n' = .int .i64 m ∧ x' = .int .u8 x ∧ k < 256 ∧ x < 256 ∧ m ≤ 9223372036854775807 ∧ Hid (Gf.mul x (Gf.pow k m) = Gf.pow a n)) (fun _ n' _ => (intOf n').toNat)
  case atStart => exact ⟨a, n, 1, rfl, rfl, rfl, by omega, by omega, by omega, by simp [Hid, Gf.one_mul _ (Gf.pow_lt a n)]⟩
  case round =>
    obtain ⟨k, m, x, rfl, rfl, rfl, h1, h2, h3, H⟩ := hrel
    by_cases h0 : 0 < m
    · have hk := Gf.mul_lt (a := k) k h1
      have hx := Gf.mul_lt (a := x) k h2
      have HR : Hid (Gf.mul (if m % 2 = 1 then Gf.mul x k else x) (Gf.pow (Gf.mul k k) (m / 2)) = Gf.pow a n) := by rw [Hid, Gf.pow_round h1 h2]; exact H.out
      go_wp2_with (go_at_call 68; refine (fieldMul_any _ _ _ (by omega) (by omega) (by omega) (by omega)).mono ?_; rintro e w' ⟨rfl, rfl⟩)
      · have t1 := and1_i64_yes h3 (by assumption)
        simp only [t1, if_true] at HR
        go_round
        case rel => exact ⟨Gf.mul k k, m / 2, Gf.mul x k, by rw [gm_nat], by go_num, by rw [gm_nat], hk, hx, by omega, HR⟩
        case measure => simp [intOf]; omega
      · have t1 := and1_i64_no h3 (by assumption)
        simp only [t1, if_false] at HR
        go_round
        case rel => exact ⟨Gf.mul k k, m / 2, x, by rw [gm_nat], by go_num, rfl, hk, h2, by omega, HR⟩
        case measure => simp [intOf]; omega
    · obtain rfl : m = 0 := by omega
      have HN : Hid (x = Gf.pow a n) := by rw [Hid, ← H.out]; simp only [Gf.pow]; rw [Gf.mul_one x h2]
      clear H
      go_wp2
      go_ret
      refine ⟨?_, rfl⟩
      rw [gp_nat, ← HN.out]; rfl


set_option maxRecDepth 100000 in
set_option maxHeartbeats 400000 in
theorem refInv_any (a : Int) (w : World) (ha : 0 ≤ a) (ha' : a ≤ 255) :
    Calls Try.prog 62 #[.int .u8 a] w fun e w' => e = .returned (.int .u8 (gp a 254)) ∧ w = w' := by
  go_enter Try.func62, Try.ntmps62
  go_wp2_with (go_at_call 69; refine (refPow_any _ _ _ (by omega) (by omega) (by omega) (by omega)).mono ?_; rintro e w' ⟨rfl, rfl⟩)
  go_ret
  exact ⟨rfl, rfl⟩

set_option maxRecDepth 100000 in
set_option maxHeartbeats 400000 in
theorem over_any (a : Int) (w : World) (ha : 0 ≤ a) (ha' : a ≤ 255) :
    Calls Try.prog 57 #[.int .u8 a] w fun e w' => e = .returned (.int .u8 (gp a 254)) ∧ w = w' := by
  go_enter Try.func57, Try.ntmps57
  go_wp2_with (go_at_call 67; refine (raised_any _ _ _ (by omega) (by omega) (by omega) (by omega)).mono ?_; rintro e w' ⟨rfl, rfl⟩)
  go_ret
  exact ⟨rfl, rfl⟩

theorem refInv_nat (a : Nat) (w : World) (ha : a < 256) :
    Calls Try.prog 62 #[.int .u8 (a : Int)] w fun e w' => e = .returned (.int .u8 ((Gf.inv a : Nat) : Int)) ∧ w = w' := by
  have h := refInv_any (a : Int) w (by omega) (by omega)
  rw [show (254 : Int) = ((254 : Nat) : Int) from rfl, gp_nat] at h
  exact h
theorem over_nat (a : Nat) (w : World) (ha : a < 256) :
    Calls Try.prog 57 #[.int .u8 (a : Int)] w fun e w' => e = .returned (.int .u8 ((Gf.inv a : Nat) : Int)) ∧ w = w' := by
  have h := over_any (a : Int) w (by omega) (by omega)
  rw [show (254 : Int) = ((254 : Nat) : Int) from rfl, gp_nat] at h
  exact h
end Go.Proofs.Ytibinkppbdeofaa

/- Matrices: what may be one; the code's way and the page's, walked. -/

namespace Go.Proofs.Ytibinkppbdeofaa
open Go.ChangeShapes Go.WideShapes Go.ChangeAt Go.RowKit Go.Joins
set_option linter.unusedVariables false
set_option linter.unusedSimpArgs false

/-- A slice value of these bytes. -/
def BytesV (w : World) (v : Value) (ns : List Nat) : Prop := RowIs w v ns.length 1 (ns.map fun n : Nat => Value.int .u8 (n : Int)) ∧ ∀ n ∈ ns, n < 256
theorem BytesV.below {w w' : World} {v : Value} {ns : List Nat} (h : BytesV w v ns) (hb : Below w.heap.size w w') : BytesV w' v ns := ⟨h.1.below hb, h.2⟩
theorem BytesV.shape {w : World} {v : Value} {ns : List Nat} (h : BytesV w v ns) : ∃ A c, v = .slice A ns.length c := by
  obtain ⟨⟨_, A, c, rfl, _⟩, _⟩ := h
  exact ⟨A, c, rfl⟩
theorem BytesV.at_ {w : World} {A : Option Addr} {c n : Nat} {ns : List Nat} (h : BytesV w (.slice A n c) ns) {k : Nat} (hk : k < ns.length) :
    ∃ b o, A = some ⟨b, o, none⟩ ∧ b < w.heap.size ∧ w.cell? ⟨b, o + k, none⟩ = some (.int .u8 ((ns.getD k 0 : Nat) : Int)) := by
  obtain ⟨b, o, c', e, hlt, hc⟩ := RowIs.at_ h.1 hk
  cases e
  refine ⟨b, o, rfl, hlt, ?_⟩
  obtain ⟨u, h1, h2⟩ := hc 0 (by omega)
  simp [hk] at h1
  rw [Nat.mul_one, Nat.add_zero] at h2
  rw [h2, ← h1]
  simp [List.getD, hk]
theorem BytesV.lt {w : World} {v : Value} {ns : List Nat} (h : BytesV w v ns) (k : Nat) : ns.getD k 0 < 256 := by
  by_cases hk : k < ns.length
  · exact getD_lt h.2 hk
  · simp [List.getD, hk]
theorem BytesV.of_blk {w : World} {B c : Nat} {ns : List Nat} (h : BytesBlk w B ns) (hB : B < w.heap.size) : BytesV w (.slice (some ⟨B, 0, none⟩) ns.length c) ns := by
  refine ⟨⟨by simp, _, _, rfl, fun _ => ⟨B, 0, rfl, hB, fun j u hj => ?_⟩⟩, fun n hn => ?_⟩
  · have hl : j < ns.length := by simpa using (List.getElem?_eq_some_iff.1 hj).1
    have := (h j hl).2.1
    rw [Nat.zero_add, this, ← hj]
    simp [List.getD, hl]
  · obtain ⟨i, hi, rfl⟩ := List.getElem_of_mem hn
    have := (h i hi).1
    rwa [← List.getElem_eq_getD (h := hi)] at this

/-- A matrix's value. -/
def matV (R C : Int) (v : Value) : Value := .agg #[.int .i64 R, .int .i64 C, v]
/-- Whether a matrix may be. -/
def mayM (R C : Int) (n : Nat) : Bool := decide (1 ≤ R ∧ R ≤ 16 ∧ 1 ≤ C ∧ C ≤ 16 ∧ (n : Int) = R * C)
theorem mayM_yes {R C : Int} {n : Nat} (h : mayM R C n = true) : ∃ r c : Nat, R = (r : Int) ∧ C = (c : Int) ∧ 1 ≤ r ∧ r ≤ 16 ∧ 1 ≤ c ∧ c ≤ 16 ∧ n = r * c := by
  obtain ⟨h1, h2, h3, h4, h5⟩ := of_decide_eq_true h
  obtain ⟨r, rfl⟩ : ∃ r : Nat, R = r := ⟨R.toNat, by omega⟩
  obtain ⟨c, rfl⟩ : ∃ c : Nat, C = c := ⟨C.toNat, by omega⟩
  exact ⟨r, c, rfl, rfl, by omega, by omega, by omega, by omega, by exact_mod_cast h5⟩
theorem mul_small {R C : Int} (h1 : 1 ≤ R) (h2 : R ≤ 16) (h3 : 1 ≤ C) (h4 : C ≤ 16) : 1 ≤ R * C ∧ R * C ≤ 256 := by
  obtain ⟨r, rfl⟩ : ∃ r : Nat, R = r := ⟨R.toNat, by omega⟩
  obtain ⟨c, rfl⟩ : ∃ c : Nat, C = c := ⟨C.toNat, by omega⟩
  have a : 1 * 1 ≤ r * c := Nat.mul_le_mul (by omega) (by omega)
  have b : r * c ≤ 16 * 16 := Nat.mul_le_mul (by omega) (by omega)
  have e : ((r * c : Nat) : Int) = (r : Int) * (c : Int) := by simp
  omega

set_option maxRecDepth 100000 in
set_option maxHeartbeats 400000 in
theorem side_any (n : Int) (w : World) :
    Calls Try.prog 46 #[.int .i64 n] w fun e w' => e = .returned (.bool (decide (1 ≤ n ∧ n ≤ 16))) ∧ w = w' := by
  by_cases h1 : 1 ≤ n
  · by_cases h2 : n ≤ 16
    · have d1 : decide (1 ≤ n) = true := decide_eq_true h1
      have d2 : decide (n ≤ 16) = true := decide_eq_true h2
      have H := Lib.hid (decide_eq_true (And.intro h1 h2))
      clear h1 h2
      go_enter Try.func46, Try.ntmps46
      go_wp2_with fail
      go_ret
      exact ⟨by rw [H.out]; rfl, rfl⟩
    · have d1 : decide (1 ≤ n) = true := decide_eq_true h1
      have d2 : decide (n ≤ 16) = false := decide_eq_false h2
      have H := Lib.hid (decide_eq_false (fun h : 1 ≤ n ∧ n ≤ 16 => h2 h.2))
      clear h1 h2
      go_enter Try.func46, Try.ntmps46
      go_wp2_with fail
      go_ret
      exact ⟨by rw [H.out]; rfl, rfl⟩
  · have d1 : decide (1 ≤ n) = false := decide_eq_false h1
    have H := Lib.hid (decide_eq_false (fun h : 1 ≤ n ∧ n ≤ 16 => h1 h.1))
    clear h1
    go_enter Try.func46, Try.ntmps46
    go_wp2_with fail
    go_ret
    exact ⟨by rw [H.out]; rfl, rfl⟩
theorem side_is (n : Int) (b : Bool) (hb : decide (1 ≤ n ∧ n ≤ 16) = b) (w : World) :
    Calls Try.prog 46 #[.int .i64 n] w fun e w' => e = .returned (.bool b) ∧ w = w' := by subst hb; exact side_any n w

set_option maxRecDepth 100000 in
set_option maxHeartbeats 400000 in
theorem between3_any (n : Int) (b : Bool) (hb : decide (1 ≤ n ∧ n ≤ 16) = b) (w : World) :
    Calls Try.prog 25 #[.int .i64 n, .int .i64 1, .int .i64 16] w fun e w' => e = .returned (.bool b) ∧ w = w' := by
  subst hb
  by_cases h1 : 1 ≤ n
  · by_cases h2 : n ≤ 16
    · have d1 : decide (1 ≤ n) = true := decide_eq_true h1
      have d2 : decide (n ≤ 16) = true := decide_eq_true h2
      have H := Lib.hid (decide_eq_true (And.intro h1 h2))
      clear h1 h2
      go_enter Try.func25, Try.ntmps25
      go_wp2_with fail
      go_ret
      exact ⟨by rw [H.out]; rfl, rfl⟩
    · have d1 : decide (1 ≤ n) = true := decide_eq_true h1
      have d2 : decide (n ≤ 16) = false := decide_eq_false h2
      have H := Lib.hid (decide_eq_false (fun h : 1 ≤ n ∧ n ≤ 16 => h2 h.2))
      clear h1 h2
      go_enter Try.func25, Try.ntmps25
      go_wp2_with fail
      go_ret
      exact ⟨by rw [H.out]; rfl, rfl⟩
  · have d1 : decide (1 ≤ n) = false := decide_eq_false h1
    have H := Lib.hid (decide_eq_false (fun h : 1 ≤ n ∧ n ≤ 16 => h1 h.1))
    clear h1
    go_enter Try.func25, Try.ntmps25
    go_wp2_with fail
    go_ret
    exact ⟨by rw [H.out]; rfl, rfl⟩

set_option maxRecDepth 100000 in
set_option maxHeartbeats 1000000 in
theorem mayM_any (R C : Int) (A : Option Addr) (n k : Nat) (w : World) (hn : n ≤ 9223372036854775807) :
    Calls Try.prog 38 #[matV R C (.slice A n k)] w fun e w' => e = .returned (.bool (mayM R C n)) ∧ Below w.heap.size w w' := by
  have hF := (Below.refl w.heap.size w).alloc (Nat.le_refl _) (.cells #[.int .i64 R, .int .i64 C, .slice A n k] 30)
  have HF := Lib.hid hF
  clear hF
  unfold matV
  by_cases hR : 1 ≤ R ∧ R ≤ 16
  · have r1 := Lib.hid (decide_eq_true hR)
    by_cases hC : 1 ≤ C ∧ C ≤ 16
    · have c1 := Lib.hid (decide_eq_true hC)
      have hm := mul_small hR.1 hR.2 hC.1 hC.2
      obtain ⟨q, hq⟩ : ∃ q, q = ((n : Int) == R * C) := ⟨_, rfl⟩
      have H : Hid (mayM R C n = q) := by
        rw [Hid, hq, mayM]
        by_cases e : (n : Int) = R * C
        · rw [beq_iff_eq.2 e]; exact decide_eq_true ⟨hR.1, hR.2, hC.1, hC.2, e⟩
        · rw [beq_eq_false_iff_ne.2 e]; exact decide_eq_false fun h => e h.2.2.2.2
      have hw : IntKind.i64.wrap (R * C) = R * C := IntWalk.i64_in _ (by omega)
      have HQ := Lib.hid hq
      clear hR hC hq
      go_enter Try.func38, Try.ntmps38
      go_wp2_with (first | (go_at_call 46; refine (side_is _ true (by first | exact r1.out | exact c1.out) _).mono ?_; rintro e w' ⟨rfl, rfl⟩))
      go_ret
      exact ⟨by rw [H.out, HQ.out]; rfl, HF.out⟩
    · have c1 := Lib.hid (decide_eq_false hC)
      have H : Hid (mayM R C n = false) := by rw [Hid, mayM]; exact decide_eq_false fun h => hC ⟨h.2.2.1, h.2.2.2.1⟩
      clear hR hC
      go_enter Try.func38, Try.ntmps38
      go_wp2_with (first | (go_at_call 46; refine (side_any _ _).mono ?_; rintro e w' ⟨rfl, rfl⟩; first | rw [r1.out] | rw [c1.out]))
      go_ret
      exact ⟨by rw [H.out]; rfl, HF.out⟩
  · have r1 := Lib.hid (decide_eq_false hR)
    have H : Hid (mayM R C n = false) := by rw [Hid, mayM]; exact decide_eq_false fun h => hR ⟨h.1, h.2.1⟩
    clear hR
    go_enter Try.func38, Try.ntmps38
    go_wp2_with (first | (go_at_call 46; refine (side_is _ false r1.out _).mono ?_; rintro e w' ⟨rfl, rfl⟩))
    go_ret
    exact ⟨by rw [H.out]; rfl, HF.out⟩
end Go.Proofs.Ytibinkppbdeofaa
