/- spot.may, walked. -/
import Derived.Test.YtijcmdcjjcemfaaPkA20
import Derived.Test.YtijcmdcjjcemfaaPkA21
import Derived.Test.YtijcmdcjjcemfaaPkA24
namespace Go.Proofs.Ytijcmdcjjcemfaa
open Go.ChangeShapes Go.WideShapes Go.ChangeAt Go.RowKit Go.Joins
set_option linter.unusedVariables false
set_option linter.unusedSimpArgs false

set_option maxRecDepth 100000 in
theorem mayBad_is (s : ByteArray) (z : Int) (B : Nat) (b : Bool) (hb : badS z s = b) (w : World) (h : w.cell? ⟨B, 2, none⟩ = some (.int .i64 z)) :
    Calls Try.prog 40 #[.string s, .pointer (some ⟨B, 0, none⟩)] w fun e w' => e = .returned (.bool b) ∧ w = w' := by
  unfold badS at hb
  by_cases h1 : (s.size : Int) = z
  · have hd : ((s.size : Int) == z) = true := by simp [h1]
    have HB : Hid (b = false) := by rw [Hid, ← hb]; simp [h1]
    clear hb h1
    go_enter Try.func40, Try.ntmps40
    go_wp2_with fail
    go_ret
    exact ⟨by rw [HB.out]; first | rfl | simp_all, rfl⟩
  · have hd : ((s.size : Int) == z) = false := by simp [h1]
    have HB : Hid (b = true) := by rw [Hid, ← hb]; simp [h1]
    clear hb h1
    go_enter Try.func40, Try.ntmps40
    go_wp2_with fail
    go_ret
    exact ⟨by rw [HB.out]; first | rfl | simp_all, rfl⟩

set_option maxRecDepth 100000 in
set_option maxHeartbeats 1000000 in
theorem indexMay_any (v : Value) (L : List ByteArray) (z : Int) (B : Nat) (w : World) (hN : Strs6 w v L) (hl : L.length ≤ 9000000000000000000) (h : w.cell? ⟨B, 2, none⟩ = some (.int .i64 z)) :
    Calls Try.prog 51 #[v, .func (.func 40) #[] #[.pointer (some ⟨B, 0, none⟩)]] w (SizeAt z L w) := by
  obtain ⟨A, cap, rfl⟩ := hN.shape
  have HS := Lib.hid hN
  clear hN
  go_enter Try.func51, Try.ntmps51
  go_wp2_with fail
  go_loop [8] (fun i => ∃ k : Nat, i = .int .i64 k ∧ k ≤ L.length ∧ Hid ((L.take k).any (badS z) = false)) (fun i => L.length - (intOf i).toNat)
  case atStart => exact ⟨0, rfl, by omega, by simp [Hid]⟩
  case round =>
    obtain ⟨k, rfl, hk, HK⟩ := hrel
    by_cases hlt : k < L.length
    · obtain ⟨b, off, rfl, hbl, hcell⟩ := HS.out.at_ hlt
      have i0 : (0 : Int) ≤ (k : Int) := by omega
      have i1 : (k : Int) < (L.length : Int) := by omega
      have HT : Hid ((L.take (k + 1)).any (badS z) = badS z (L[k]'hlt)) := by
        rw [Hid, List.take_succ_eq_append_getElem hlt, List.any_append, HK.out]
        simp
      have HM : Hid (L[k]'hlt ∈ L) := List.getElem_mem hlt
      generalize L[k]'hlt = s at *
      cases hb : badS z s
      · have HBX := Lib.hid hb
        clear hb
        go_wp2_with (first | (go_at_call 40; refine (mayBad_is s z B false HBX.out _ h).mono ?_; rintro e w' ⟨rfl, rfl⟩))
        go_round
        case rel => exact ⟨k + 1, by go_num, by omega, by rw [Hid, HT.out]; exact HBX.out⟩
        case measure => simp [intOf]; omega
      · have HBX := Lib.hid hb
        clear hb
        go_wp2_with (first | (go_at_call 40; refine (mayBad_is s z B true HBX.out _ h).mono ?_; rintro e w' ⟨rfl, rfl⟩))
        go_ret
        refine ⟨_, rfl, ?_, rfl⟩
        rw [Hid, decide_eq_true (by omega)]
        symm
        rw [List.any_eq_true]
        exact ⟨s, HM.out, HBX.out⟩
    · have hke : k = L.length := by omega
      have HT : Hid (L.any (badS z) = false) := by
        have := HK.out
        rw [hke, List.take_length] at this
        exact this
      clear hke
      go_wp2_with fail
      go_ret
      exact ⟨_, rfl, by rw [Hid, HT.out]; rfl, rfl⟩

set_option maxRecDepth 100000 in
theorem containsMay_is (v : Value) (L : List ByteArray) (z : Int) (B : Nat) (b : Bool) (hb : L.any (badS z) = b) (w : World) (hN : Strs6 w v L) (hl : L.length ≤ 9000000000000000000) (h : w.cell? ⟨B, 2, none⟩ = some (.int .i64 z)) :
    Calls Try.prog 39 #[v, .func (.func 40) #[] #[.pointer (some ⟨B, 0, none⟩)]] w fun e w' => e = .returned (.bool b) ∧ w = w' := by
  have HI := Lib.hid (indexMay_any v L z B w hN hl h)
  have HB := Lib.hid hb
  clear hN h hb
  go_enter Try.func39, Try.ntmps39
  go_wp2_with fail
  refine HI.out.mono ?_
  rintro e w' ⟨p, rfl, HP, rfl⟩
  go_wp2_with fail
  go_ret
  exact ⟨by show Ending.returned (.bool (decide (0 ≤ p))) = _; rw [HP.out, HB.out], rfl⟩

set_option maxRecDepth 100000 in
set_option maxHeartbeats 1000000 in
theorem spotMay_any (k m z : Int) (v : Value) (L : List ByteArray) (b : Bool) (hb : (mayB (k, m, z) && fitB L (k + m) z) = b) (w : World) (hN : Strs6 w v L) (hl : L.length ≤ 9000000000000000000) :
    Calls Try.prog 26 #[.agg #[.int .i64 k, .int .i64 m, .int .i64 z], v] w fun e w' => e = .returned (.bool b) ∧ Below w.heap.size w w' := by
  obtain ⟨A, cap, rfl⟩ := hN.shape
  obtain ⟨o, ho⟩ : ∃ o, o = (Obj.cells #[.int .i64 k, .int .i64 m, .int .i64 z] 29) := ⟨_, rfl⟩
  have tA := Three.new w (.int .i64 k) (.int .i64 m) (.int .i64 z) 29
  have hbe := (Below.refl w.heap.size w).alloc (Nat.le_refl _) (.cells #[.int .i64 k, .int .i64 m, .int .i64 z] 29)
  rw [← ho] at tA hbe
  have HB := Lib.hid hbe
  have HT := Lib.hid tA
  have HS := Lib.hid (hN.below hbe)
  obtain ⟨a0, a1, a2, _, _, _⟩ := tA
  rw [ho] at a0 a1 a2
  clear hbe hN
  obtain ⟨mb, hmb⟩ : ∃ mb, mb = mayB (k, m, z) := ⟨_, rfl⟩
  rw [← hmb] at hb
  have HMB := Lib.hid hmb.symm
  have HR := Lib.hid hb
  clear hmb hb
  go_enter Try.func26, Try.ntmps26
  go_wp2_with fail
  rw [← ho]
  refine (may_any k m z _).mono ?_
  rintro e w1 ⟨rfl, hb1⟩
  rw [HMB.out]
  have HB1 := Lib.hid (HB.out.trans (hb1.mono HB.out.size))
  have HS1 := Lib.hid (HS.out.below hb1)
  have HT1 := Lib.hid (HT.out.below hb1)
  clear hb1 a0 a1 a2 ho HB HS HT
  cases mb
  · have HF : Hid (b = false) := by rw [Hid, ← HR.out]; rfl
    go_wp2_with fail
    go_ret
    exact ⟨by rw [HF.out]; rfl, HB1.out⟩
  · obtain ⟨K, M, ek, em, k1, k8, m6, z1, z2⟩ := mayB_yes HMB.out
    have hwk : IntKind.i64.wrap (k + m) = k + m := IntWalk.i64_in _ (by omega)
    clear ek em
    obtain ⟨a0, a1, a2, _, _, _⟩ := HT1.out
    by_cases h1 : (L.length : Int) = k + m
    · have hd : ((L.length : Int) == k + m) = true := by simp [h1]
      have HC := Lib.hid (fun W (h : w1 = W) => containsMay_is (.slice A L.length cap) L z w.heap.size (L.any (badS z)) rfl W (h ▸ HS1.out) hl (h ▸ HT1.out.c2))
      have HF : Hid (b = !L.any (badS z)) := by rw [Hid, ← HR.out, fitB, decide_eq_true h1]; rfl
      clear h1
      go_wp2_with (first | (go_at_call 39; refine (HC.out _ rfl).mono ?_; rintro e w' ⟨rfl, rfl⟩))
      go_ret
      exact ⟨by rw [HF.out]; rfl, HB1.out⟩
    · have hd : ((L.length : Int) == k + m) = false := by simp [h1]
      have HF : Hid (b = false) := by rw [Hid, ← HR.out, fitB, decide_eq_false h1]; rfl
      clear h1
      go_wp2_with fail
      go_ret
      exact ⟨by rw [HF.out]; rfl, HB1.out⟩

end Go.Proofs.Ytijcmdcjjcemfaa

/- Rows of numbers that the code made: CopyNumbers, EqNumbers. -/

namespace Go.Proofs.Ytijcmdcjjcemfaa
open Go.ChangeShapes Go.WideShapes Go.ChangeAt Go.RowKit Go.Joins
set_option linter.unusedVariables false
set_option linter.unusedSimpArgs false

/-- Numbers that the code made. -/
def Ints6 (w : World) (v : Value) (L : List Int) : Prop := RowIs w v L.length 1 (i64s L)
theorem Ints6.at_ {w : World} {A : Option Addr} {c : Nat} {L : List Int} (h : Ints6 w (.slice A L.length c) L) {k : Nat} (hk : k < L.length) :
    ∃ b o, A = some ⟨b, o, none⟩ ∧ b < w.heap.size ∧ w.cell? ⟨b, o + k, none⟩ = some (.int .i64 (L[k]'hk)) := by
  obtain ⟨b, o, c', e, hlt, hc⟩ := RowIs.at_ h hk
  cases e
  refine ⟨b, o, rfl, hlt, ?_⟩
  obtain ⟨u, h1, h2⟩ := hc 0 (by omega)
  simp [hk, i64s] at h1
  rw [Nat.mul_one, Nat.add_zero] at h2
  rw [h2, h1]
theorem Ints6.below {w w' : World} {v : Value} {l : List Int} (h : Ints6 w v l) (hb : Below w.heap.size w w') : Ints6 w' v l := RowIs.below h hb
theorem Ints6.shape {w : World} {v : Value} {l : List Int} (h : Ints6 w v l) : ∃ A c, v = .slice A l.length c := by
  obtain ⟨_, A, c, rfl, _⟩ := h
  exact ⟨A, c, rfl⟩
theorem Ints6.own {w : World} {B : Nat} {e : TypeId} {v : Value} {l : List Int} {n : Nat} (h : w.ownsRow B e 1 v n (i64s l)) (hn : n = l.length) : Ints6 w v l := by
  subst hn
  exact RowIs.of_own h

set_option maxRecDepth 100000 in
set_option maxHeartbeats 1000000 in
theorem eqNums_yes (va vb : Value) (l : List Int) (w : World) (ha : Ints6 w va l) (hb : Ints6 w vb l) (hm : l.length ≤ 9000000000000000000) :
    Calls Try.prog 14 #[va, vb] w fun e w' => e = .returned (.bool true) ∧ Below w.heap.size w w' := by
  have HA := Lib.hid ha
  have HB := Lib.hid hb
  obtain ⟨Aa, ka, rfl⟩ := ha.shape
  obtain ⟨Ab, kb, rfl⟩ := hb.shape
  clear ha hb
  go_enter Try.func14, Try.ntmps14
  go_wp2_with fail
  go_loopw [5] (fun i wr => ∃ k : Nat, i = .int .i64 k ∧ k ≤ l.length ∧ Below w.heap.size w wr) (fun i _ => l.length - (intOf i).toNat)
  case atStart => exact ⟨0, rfl, by omega, Below.refl _ _⟩
  case round =>
    obtain ⟨k, rfl, hk, hwr⟩ := hrel
    by_cases hlt : k < l.length
    · obtain ⟨ba, oa, rfl, _, a0⟩ := (HA.out.below hwr).at_ hlt
      obtain ⟨bb, ob, rfl, _, b0⟩ := (HB.out.below hwr).at_ hlt
      generalize l[k]'hlt = s at a0 b0
      have j0 : (0 : Int) ≤ (k : Int) := by omega
      have j1 : (k : Int) < (l.length : Int) := by omega
      go_wp2_with fail
      go_quiet (fail)
      all_goals
        go_wp2_with fail
        go_roundw
        case rel => exact ⟨k + 1, by go_num, by omega, below_drewN hwr _⟩
        case measure => simp [intOf]; omega
    · go_wp2_with fail
      go_ret
      exact ⟨rfl, hwr⟩

set_option maxRecDepth 100000 in
set_option maxHeartbeats 1000000 in
theorem copyNums_any (v : Value) (T : List Int) (w : World) (h : Ints6 w v T) (hl : T.length ≤ 6000) :
    Calls Try.prog 47 #[v] w fun e w' => ∃ r, e = .returned r ∧ w'.ownsRow w.heap.size 3 1 r T.length (i64s T) ∧ Below w.heap.size w w' := by
  obtain ⟨i0, hi, hz0, hz1, hz2⟩ := info_parts infoI64
  have HS := Lib.hid h
  obtain ⟨A, cap, rfl⟩ := h.shape
  clear h
  go_enter Try.func47, Try.ntmps47
  go_wp2_with fail
  go_loopw [3, 4] (fun l i wr => ∃ k : Nat, i = .int .i64 k ∧ k ≤ T.length ∧ wr.ownsRow w.heap.size 3 1 l k (i64s (T.take k)) ∧ Below w.heap.size w wr) (fun _ i _ => T.length - (intOf i).toNat)
  case atStart => exact ⟨0, rfl, by omega, World.ownsRow_nil _ _ _ _, Below.refl _ _⟩
  case round =>
    obtain ⟨k, rfl, hk, hown, hwr⟩ := hrel
    by_cases hlt : k < T.length
    · obtain ⟨b, off, rfl, hbl, hcell⟩ := (HS.out.below hwr).at_ hlt
      have HT : Hid (T.take (k + 1) = T.take k ++ [T[k]'hlt]) := by rw [Hid, List.take_succ_eq_append_getElem hlt]
      generalize T[k]'hlt = s at *
      have j0 : (0 : Int) ≤ (k : Int) := by omega
      have j1 : (k : Int) < (T.length : Int) := by omega
      go_wp2_with (first | (at_builtin; refine wpList_append_own _ rfl _ _ 34 rfl w.heap.size 3 i0 (.int .i64 0) 1 8 Try.underlying34 hi hz0 hz1 hz2 rfl (by decide) _ _ _ rfl (hown.alloc _) ⟨wr.heap.size, 0, none⟩ 1 1 [.int .i64 s] rfl rfl ?c1 ?c2 ?c3 ?c4 ?c5 ?_) | go_in)
      case c1 => exact cell_one_new' _ _ _
      case c2 => intro u hu; simp at hu; subst hu; rfl
      case c3 => unfold maxLen; omega
      case c4 => omega
      case c5 => have := hwr.size; simp; omega
      all_goals
        intro v' w1 hown' hgrow _
        have hbx := append_below hwr hown hgrow
        clear hown hgrow hwr hcell
        go_wp2_with fail
        go_roundw
        case rel => exact ⟨k + 1, by go_num, by omega, by rw [HT.out, i64s_snoc]; exact hown', hbx⟩
        case measure => simp [intOf]; omega
    · have hke : k = T.length := by omega
      rw [hke, List.take_length] at hown
      clear hke
      go_wp2_with fail
      all_goals
        go_ret
        exact ⟨_, rfl, hown, hwr⟩
end Go.Proofs.Ytijcmdcjjcemfaa

/- spot.Mended, spot.Wrong, spot.Near, walked. -/

namespace Go.Proofs.Ytijcmdcjjcemfaa
open Go.ChangeShapes Go.WideShapes Go.ChangeAt Go.RowKit Go.Joins Go.Shelf
set_option linter.unusedVariables false
set_option linter.unusedSimpArgs false

/-- The error's number; what was wrong. -/
def errO : Option (List ByteArray) → Int
  | none => 8
  | some _ => 0
def unlO (n : Nat) (l : List ByteArray) : Option (List ByteArray) → List Int
  | none => []
  | some c => unlN c l n
theorem fit_nat {K M Z : Nat} {l : List ByteArray} (k1 : 1 ≤ K) (k8 : K ≤ 8) (m6 : M ≤ 6) (z1 : 1 ≤ Z) (z2 : Z ≤ 120) (hll : l.length = K + M) (hsz : ∀ s ∈ l, s.size = Z) : (mayB ((K : Int), (M : Int), (Z : Int)) && fitB l ((K : Int) + (M : Int)) (Z : Int)) = true := by
  have h1 : mayB ((K : Int), (M : Int), (Z : Int)) = true := by unfold mayB; simp; omega
  rw [h1, fitB_of (by omega) (fun s hs => by rw [hsz s hs])]
  rfl

theorem eql_nil (a : Option Addr) (l c : Nat) (w : World) : (binOp .eql 23 (.slice a l c) (.slice none 0 0)).run Try.prog w = .ok (.bool a.isNone) w := by
  simp only [binOp]
  simp [run_equal_slice_nil (P := Try.prog) w 23 9 a l c Try.underlying23]

set_option maxRecDepth 100000 in
set_option maxHeartbeats 1000000 in
theorem mended_yes (K M Z : Nat) (vl : Value) (l : List ByteArray) (w : World) (k1 : 1 ≤ K) (k8 : K ≤ 8) (m6 : M ≤ 6) (z1 : 1 ≤ Z) (z2 : Z ≤ 120) (hl : Strs6 w vl l) (hll : l.length = K + M) (hsz : ∀ s ∈ l, s.size = Z) :
    Calls Try.prog 12 #[.agg #[.int .i64 (K : Int), .int .i64 (M : Int), .int .i64 (Z : Int)], vl] w fun e w' =>
      ∃ r, e = .returned (.tuple #[r, .int .i64 (errO (foundL (K + M) K M Z l))]) ∧ FoundR w.heap.size w' r (foundL (K + M) K M Z l) ∧ Below w.heap.size w w' := by
  obtain ⟨A, cl, rfl⟩ := hl.shape
  obtain ⟨o, ho⟩ : ∃ o, o = (Obj.cells #[.int .i64 (K : Int), .int .i64 (M : Int), .int .i64 (Z : Int)] 29) := ⟨_, rfl⟩
  have tA := Three.new w (.int .i64 (K : Int)) (.int .i64 (M : Int)) (.int .i64 (Z : Int)) 29
  have hbe := (Below.refl w.heap.size w).alloc (Nat.le_refl _) (.cells #[.int .i64 (K : Int), .int .i64 (M : Int), .int .i64 (Z : Int)] 29)
  rw [← ho] at tA hbe
  have HB := Lib.hid hbe
  have HT := Lib.hid tA
  have HS := Lib.hid (hl.below hbe)
  obtain ⟨a0, a1, a2, _, _, _⟩ := tA
  rw [ho] at a0 a1 a2
  have HFB := Lib.hid (fit_nat k1 k8 m6 z1 z2 hll hsz)
  have HLL := Lib.hid hll
  have HSZ := Lib.hid hsz
  clear hbe hl hll hsz
  obtain ⟨fo, hfo⟩ : ∃ fo, fo = foundL (K + M) K M Z l := ⟨_, rfl⟩
  rw [← hfo]
  have HFO := Lib.hid hfo
  clear hfo
  go_enter Try.func12, Try.ntmps12
  go_wp2_with fail
  rw [← ho]
  refine (spotMay_any (K : Int) (M : Int) (Z : Int) _ l true HFB.out _ HS.out (by rw [HLL.out]; omega)).mono ?_
  rintro e w1 ⟨rfl, hb1⟩
  have HB1 := Lib.hid (HB.out.trans (hb1.mono HB.out.size))
  have HS1 := Lib.hid (HS.out.below hb1)
  have HT1 := Lib.hid (HT.out.below hb1)
  clear hb1 a0 a1 a2 ho HB HS HT
  obtain ⟨a0, a1, a2, _, _, _⟩ := HT1.out
  go_wp2_with fail
  have HM := found_any K M Z _ l w1 k1 k8 m6 z1 z2 HS1.out HLL.out HSZ.out
  rw [← HFO.out] at HM
  refine HM.mono ?_
  rintro e w2 ⟨r, rfl, hr, hb2⟩
  have HB2 := Lib.hid (HB1.out.trans (hb2.mono HB1.out.size))
  have HCL : Hid (∀ c, fo = some c → 0 < c.length) := fun c h => by
    rw [code_len (found_code (l := l) rfl (by rw [← HFO.out]; exact h)).1]; omega
  clear a0 a1 a2 hb2 HM HFO
  cases fo with
  | none =>
    have hr' : r = .slice none 0 0 := hr
    subst hr'
    have hnl := eql_nil none 0 0 w2
    clear hr
    go_wp2_with fail
    go_ret2
    exact ⟨_, rfl, rfl, HB2.out⟩
  | some c =>
    obtain ⟨g, cap, rfl, _, _⟩ := World.ownsRow.form hr (HCL.out c rfl)
    have HR : Hid (w2.ownsRow w.heap.size 9 1 (.slice (some ⟨g, 0, none⟩) c.length cap) c.length (c.map Value.string)) := hr.mono HB1.out.size
    have hnl := eql_nil (some ⟨g, 0, none⟩) c.length cap w2
    clear hr
    go_wp2_with fail
    go_ret2
    exact ⟨_, rfl, HR.out, HB2.out⟩

set_option maxRecDepth 100000 in
set_option maxHeartbeats 1000000 in
theorem mended_no (k m z : Int) (v : Value) (L : List ByteArray) (w : World) (hb : (mayB (k, m, z) && fitB L (k + m) z) = false) (hN : Strs6 w v L) (hl : L.length ≤ 9000000000000000000) :
    Calls Try.prog 12 #[.agg #[.int .i64 k, .int .i64 m, .int .i64 z], v] w fun e w' => e = .returned (.tuple #[.slice none 0 0, .int .i64 1]) ∧ Below w.heap.size w w' := by
  obtain ⟨A, cl, rfl⟩ := hN.shape
  obtain ⟨o, ho⟩ : ∃ o, o = (Obj.cells #[.int .i64 k, .int .i64 m, .int .i64 z] 29) := ⟨_, rfl⟩
  have tA := Three.new w (.int .i64 k) (.int .i64 m) (.int .i64 z) 29
  have hbe := (Below.refl w.heap.size w).alloc (Nat.le_refl _) (.cells #[.int .i64 k, .int .i64 m, .int .i64 z] 29)
  rw [← ho] at tA hbe
  have HB := Lib.hid hbe
  have HS := Lib.hid (hN.below hbe)
  obtain ⟨a0, a1, a2, _, _, _⟩ := tA
  rw [ho] at a0 a1 a2
  have HFB := Lib.hid hb
  clear hbe hN hb
  go_enter Try.func12, Try.ntmps12
  go_wp2_with fail
  rw [← ho]
  refine (spotMay_any k m z _ L false HFB.out _ HS.out hl).mono ?_
  rintro e w1 ⟨rfl, hb1⟩
  have HB1 := Lib.hid (HB.out.trans (hb1.mono HB.out.size))
  clear hb1 a0 a1 a2 ho HB HS
  go_wp2_with fail
  go_ret2
  exact ⟨rfl, HB1.out⟩

set_option maxRecDepth 100000 in
set_option maxHeartbeats 1000000 in
theorem wrong_yes (K M Z : Nat) (vl : Value) (l : List ByteArray) (w : World) (k1 : 1 ≤ K) (k8 : K ≤ 8) (m6 : M ≤ 6) (z1 : 1 ≤ Z) (z2 : Z ≤ 120) (hl : Strs6 w vl l) (hll : l.length = K + M) (hsz : ∀ s ∈ l, s.size = Z) :
    Calls Try.prog 11 #[.agg #[.int .i64 (K : Int), .int .i64 (M : Int), .int .i64 (Z : Int)], vl] w fun e w' =>
      ∃ r, e = .returned (.tuple #[r, .int .i64 (errO (foundL (K + M) K M Z l))]) ∧ w'.ownsRow w.heap.size 3 1 r (unlO (K + M) l (foundL (K + M) K M Z l)).length (i64s (unlO (K + M) l (foundL (K + M) K M Z l))) ∧ Below w.heap.size w w' := by
  obtain ⟨A, cl, rfl⟩ := hl.shape
  obtain ⟨o, ho⟩ : ∃ o, o = (Obj.cells #[.int .i64 (K : Int), .int .i64 (M : Int), .int .i64 (Z : Int)] 29) := ⟨_, rfl⟩
  have tA := Three.new w (.int .i64 (K : Int)) (.int .i64 (M : Int)) (.int .i64 (Z : Int)) 29
  have hbe := (Below.refl w.heap.size w).alloc (Nat.le_refl _) (.cells #[.int .i64 (K : Int), .int .i64 (M : Int), .int .i64 (Z : Int)] 29)
  rw [← ho] at tA hbe
  have HB := Lib.hid hbe
  have HS := Lib.hid (hl.below hbe)
  obtain ⟨a0, a1, a2, _, _, _⟩ := tA
  rw [ho] at a0 a1 a2
  have HLL := Lib.hid hll
  have HSZ := Lib.hid hsz
  clear hbe hl hll hsz
  obtain ⟨fo, hfo⟩ : ∃ fo, fo = foundL (K + M) K M Z l := ⟨_, rfl⟩
  rw [← hfo]
  have HFO := Lib.hid hfo
  clear hfo
  go_enter Try.func11, Try.ntmps11
  go_wp2_with fail
  rw [← ho]
  have HM := mended_yes K M Z _ l _ k1 k8 m6 z1 z2 HS.out HLL.out HSZ.out
  rw [← HFO.out] at HM
  refine HM.mono ?_
  rintro e w1 ⟨r, rfl, hr, hb1⟩
  have HB1 := Lib.hid (HB.out.trans (hb1.mono HB.out.size))
  have HS1 := Lib.hid (HS.out.below hb1)
  have HCL : Hid (∀ c, fo = some c → c.length = K + M) := fun c h => code_len (found_code (l := l) rfl (by rw [← HFO.out]; exact h)).1
  clear a0 a1 a2 ho hb1 HB HS HM HFO
  cases fo with
  | none =>
    have hr' : r = .slice none 0 0 := hr
    subst hr'
    clear hr
    dsimp only [errO]
    go_wp2_with fail
    go_ret2
    exact ⟨_, rfl, World.ownsRow_nil _ _ _ _, HB1.out⟩
  | some c =>
    have hn : c.length = K + M := HCL.out c rfl
    have HR : Hid (Strs6 w1 r c) := RowIs.of_own hr
    have HN := Lib.hid hn
    clear hr hn HCL
    dsimp only [errO]
    go_wp2_with fail
    refine (unlike_any r _ c l (K + M) w1 HR.out HS1.out HN.out HLL.out (by omega)).mono ?_
    rintro e w2 ⟨ru, rfl, hou, hb2⟩
    have HO := Lib.hid (hou.mono HB1.out.size)
    have HB2 := Lib.hid (HB1.out.trans (hb2.mono HB1.out.size))
    clear hou hb2
    go_wp2_with fail
    go_ret2
    exact ⟨_, rfl, HO.out, HB2.out⟩

set_option maxRecDepth 100000 in
set_option maxHeartbeats 1000000 in
theorem wrong_no (k m z : Int) (v : Value) (L : List ByteArray) (w : World) (hb : (mayB (k, m, z) && fitB L (k + m) z) = false) (hN : Strs6 w v L) (hl : L.length ≤ 9000000000000000000) :
    Calls Try.prog 11 #[.agg #[.int .i64 k, .int .i64 m, .int .i64 z], v] w fun e w' => e = .returned (.tuple #[.slice none 0 0, .int .i64 1]) ∧ Below w.heap.size w w' := by
  obtain ⟨A, cl, rfl⟩ := hN.shape
  obtain ⟨o, ho⟩ : ∃ o, o = (Obj.cells #[.int .i64 k, .int .i64 m, .int .i64 z] 29) := ⟨_, rfl⟩
  have tA := Three.new w (.int .i64 k) (.int .i64 m) (.int .i64 z) 29
  have hbe := (Below.refl w.heap.size w).alloc (Nat.le_refl _) (.cells #[.int .i64 k, .int .i64 m, .int .i64 z] 29)
  rw [← ho] at tA hbe
  have HB := Lib.hid hbe
  have HS := Lib.hid (hN.below hbe)
  obtain ⟨a0, a1, a2, _, _, _⟩ := tA
  rw [ho] at a0 a1 a2
  have HFB := Lib.hid hb
  clear hbe hN hb
  go_enter Try.func11, Try.ntmps11
  go_wp2_with fail
  rw [← ho]
  refine (mended_no k m z _ L _ HFB.out HS.out hl).mono ?_
  rintro e w1 ⟨rfl, hb1⟩
  have HB1 := Lib.hid (HB.out.trans (hb1.mono HB.out.size))
  clear hb1 a0 a1 a2 ho HB HS
  go_wp2_with fail
  go_ret2
  exact ⟨rfl, HB1.out⟩

set_option maxRecDepth 100000 in
set_option maxHeartbeats 1000000 in
theorem near_no (k m z : Int) (v : Value) (L : List ByteArray) (w : World) (hb : (mayB (k, m, z) && fitB L (k + m) z) = false) (hN : Strs6 w v L) (hl : L.length ≤ 9000000000000000000) :
    Calls Try.prog 17 #[.agg #[.int .i64 k, .int .i64 m, .int .i64 z], v] w fun e w' => e = .returned (.tuple #[.int .i64 0, .int .i64 1]) ∧ Below w.heap.size w w' := by
  obtain ⟨A, cl, rfl⟩ := hN.shape
  obtain ⟨o, ho⟩ : ∃ o, o = (Obj.cells #[.int .i64 k, .int .i64 m, .int .i64 z] 29) := ⟨_, rfl⟩
  have tA := Three.new w (.int .i64 k) (.int .i64 m) (.int .i64 z) 29
  have hbe := (Below.refl w.heap.size w).alloc (Nat.le_refl _) (.cells #[.int .i64 k, .int .i64 m, .int .i64 z] 29)
  rw [← ho] at tA hbe
  have HB := Lib.hid hbe
  have HS := Lib.hid (hN.below hbe)
  obtain ⟨a0, a1, a2, _, _, _⟩ := tA
  rw [ho] at a0 a1 a2
  have HFB := Lib.hid hb
  clear hbe hN hb
  go_enter Try.func17, Try.ntmps17
  go_wp2_with fail
  rw [← ho]
  refine (spotMay_any k m z _ L false HFB.out _ HS.out hl).mono ?_
  rintro e w1 ⟨rfl, hb1⟩
  have HB1 := Lib.hid (HB.out.trans (hb1.mono HB.out.size))
  clear hb1 a0 a1 a2 ho HB HS
  go_wp2_with fail
  go_ret2
  exact ⟨rfl, HB1.out⟩
set_option maxRecDepth 100000 in
set_option maxHeartbeats 2000000 in
theorem near_yes (K M Z : Nat) (vl : Value) (l : List ByteArray) (w : World) (k1 : 1 ≤ K) (k8 : K ≤ 8) (m6 : M ≤ 6) (z1 : 1 ≤ Z) (z2 : Z ≤ 120) (hl : Strs6 w vl l) (hr : RoomS vl l) (hll : l.length = K + M) (hsz : ∀ s ∈ l, s.size = Z) :
    Calls Try.prog 17 #[.agg #[.int .i64 (K : Int), .int .i64 (M : Int), .int .i64 (Z : Int)], vl] w fun e w' =>
      e = .returned (.tuple #[.int .i64 ((unlN (encL (K : Int) (M : Int) (Z : Int) (l.take K)) l (K + M)).length : Int), .int .i64 0]) ∧ Below w.heap.size w w' := by
  obtain ⟨A, cl, rfl, c1, c2⟩ := hr
  obtain ⟨o, ho⟩ : ∃ o, o = (Obj.cells #[.int .i64 (K : Int), .int .i64 (M : Int), .int .i64 (Z : Int)] 29) := ⟨_, rfl⟩
  have tA := Three.new w (.int .i64 (K : Int)) (.int .i64 (M : Int)) (.int .i64 (Z : Int)) 29
  have hbe := (Below.refl w.heap.size w).alloc (Nat.le_refl _) (.cells #[.int .i64 (K : Int), .int .i64 (M : Int), .int .i64 (Z : Int)] 29)
  rw [← ho] at tA hbe
  have HB := Lib.hid hbe
  have HT := Lib.hid tA
  have HS := Lib.hid (hl.below hbe)
  obtain ⟨a0, a1, a2, _, _, _⟩ := tA
  rw [ho] at a0 a1 a2
  have HFB := Lib.hid (fit_nat k1 k8 m6 z1 z2 hll hsz)
  obtain ⟨n, hn⟩ : ∃ n, n = K + M := ⟨_, rfl⟩
  rw [← hn] at hll ⊢
  rw [hll] at c1 ⊢
  have HLL := Lib.hid hll
  have HNN := Lib.hid hn
  have hKn : K ≤ n := by omega
  have hn14 : n ≤ 14 := by omega
  have HFK : Hid ((mayB ((K : Int), (M : Int), (Z : Int)) && fitB (l.take K) (K : Int) (Z : Int)) = true) := by
    have h1 : mayB ((K : Int), (M : Int), (Z : Int)) = true := by unfold mayB; simp; omega
    rw [Hid, h1, fitB_of (by rw [List.length_take, hll]; omega) (fun s hs => by rw [hsz s (List.mem_of_mem_take hs)])]
    rfl
  clear hbe hl hll hsz hn
  go_enter Try.func17, Try.ntmps17
  go_wp2_with fail
  rw [← ho]
  have HS' := HS.out
  rw [HLL.out] at HS'
  have HSa := Lib.hid HS'
  clear HS'
  refine (spotMay_any (K : Int) (M : Int) (Z : Int) _ l true (by rw [HNN.out] at *; exact HFB.out) _ HSa.out (by rw [HLL.out]; omega)).mono ?_
  rintro e w1 ⟨rfl, hb1⟩
  have HB1 := Lib.hid (HB.out.trans (hb1.mono HB.out.size))
  have HS1 := Lib.hid (HS.out.below hb1)
  have HT1 := Lib.hid (HT.out.below hb1)
  clear hb1 a0 a1 a2 ho HB HS HT HSa
  obtain ⟨a0, a1, a2, _, _, _⟩ := HT1.out
  have j0 : (0 : Int) ≤ (K : Int) := by omega
  have j1 : (K : Int) ≤ (cl : Int) := by omega
  have HTK : Hid (∀ c', Strs6 w1 (.slice A K c') (l.take K)) := fun c' => Strs6.take HS1.out (by rw [HLL.out]; exact hKn)
  have hEN : ∀ c' W, Below w1.heap.size w1 W → Calls Try.prog 28 #[.agg #[.int .i64 (K : Int), .int .i64 (M : Int), .int .i64 (Z : Int)], .slice A K c'] W fun e w' => ∃ r, e = .returned (.tuple #[r, .int .i64 0]) ∧ w'.ownsRow W.heap.size 9 1 r n ((encL (K : Int) (M : Int) (Z : Int) (l.take K)).map Value.string) ∧ Below W.heap.size W w' := fun c' W hW => by
    refine (encode_all (K : Int) (M : Int) (Z : Int) (.slice A K c') (l.take K) true HFK.out W ((HTK.out c').below hW) (by rw [List.length_take]; omega)).mono ?_
    rintro e w' ⟨r, rfl, ho, hb⟩
    refine ⟨r, rfl, ?_, hb⟩
    have e1 : (encL (K : Int) (M : Int) (Z : Int) (l.take K)).length = n := by rw [encL_len, HNN.out]; omega
    have ho2 : w'.ownsRow W.heap.size 9 1 r (encL (K : Int) (M : Int) (Z : Int) (l.take K)).length ((encL (K : Int) (M : Int) (Z : Int) (l.take K)).map Value.string) := ho
    rw [e1] at ho2
    exact ho2
  have HEN := Lib.hid hEN
  clear hEN HTK HFK
  go_wp2_with fail
  go_region_with (first | (go_at_call 28; refine (HEN.out _ _ (by exact ⟨rfl, rfl, rfl, Nat.le_refl _, fun _ _ => rfl⟩)).mono ?_; rintro e w2 ⟨r, rfl, hor, hb2⟩) | fail)
  all_goals
    have HR : Hid (Strs6 w2 r (encL (K : Int) (M : Int) (Z : Int) (l.take K))) := by
      have h := RowIs.of_own hor
      have e1 : (encL (K : Int) (M : Int) (Z : Int) (l.take K)).length = n := by rw [encL_len, HNN.out]; omega
      show RowIs _ _ (encL _ _ _ _).length 1 _
      rw [e1]
      exact h
    have hb2' : Below w1.heap.size w1 w2 := ⟨hb2.os, hb2.tape, hb2.output, hb2.size, hb2.block⟩
    have HS2 := Lib.hid (HS1.out.below hb2')
    have HB2 := Lib.hid (HB1.out.trans (hb2'.mono HB1.out.size))
    clear hor hb2 hb2' HEN
    have HS3 := HS2.out
    rw [HLL.out] at HS3
    have HS4 := Lib.hid HS3
    clear HS3 a0 a1 a2
    go_wp2_with fail
    refine (unlike_any r _ (encL (K : Int) (M : Int) (Z : Int) (l.take K)) l n w2 HR.out HS4.out (by rw [encL_len, HNN.out]; omega) HLL.out (by omega)).mono ?_
    rintro e w3 ⟨ru, rfl, hou, hb3⟩
    have HB3 := Lib.hid (HB2.out.trans (hb3.mono HB2.out.size))
    obtain ⟨Au, cu, rfl⟩ := own_shape hou
    clear hou hb3
    go_wp2_with fail
    go_ret2
    exact ⟨rfl, HB3.out⟩
end Go.Proofs.Ytijcmdcjjcemfaa

/- The law's error number, its wakes. -/

namespace Go.Proofs.Ytijcmdcjjcemfaa
open Go.ChangeShapes Go.WideShapes Go.ChangeAt Go.RowKit Go.Joins
set_option linter.unusedVariables false
set_option linter.unusedSimpArgs false

set_option maxRecDepth 100000 in
theorem num5_any (n : Int) (w : World) : Calls Try.prog 13 #[.int .i64 n] w fun e w' => e = .returned (.int .i64 n) ∧ w = w' := by
  go_enter Try.func13, Try.ntmps13
  go_wp2_with fail
  go_ret
  exact ⟨rfl, rfl⟩

theorem wakes4_enc5 : encL 1 2 1 [⟨#[120]⟩] = [⟨#[120]⟩, ⟨#[120]⟩, ⟨#[120]⟩] := by decide +kernel
theorem wakes5_unl : unlN [⟨#[120]⟩, ⟨#[120]⟩, ⟨#[120]⟩] [⟨#[120]⟩, ⟨#[121]⟩, ⟨#[120]⟩] 3 = [1] := by
  have h : (⟨#[120]⟩ : ByteArray) ≠ ⟨#[121]⟩ := by decide
  simp [unlN, h]
theorem wakes5_found : foundL 3 1 2 1 [⟨#[120]⟩, ⟨#[121]⟩, ⟨#[120]⟩] = some [⟨#[120]⟩, ⟨#[120]⟩, ⟨#[120]⟩] := by
  refine found_yes (by rfl) (by omega) ⟨[⟨#[120]⟩], rfl, by intro s hs; simp at hs; subst hs; rfl, ?_⟩ (by rw [wakes5_unl]; decide)
  have h := wakes4_enc5
  have e := encL_nat 1 2 1 [⟨#[120]⟩]
  exact h.symm.trans e

set_option maxRecDepth 100000 in
set_option maxHeartbeats 1000000 in
theorem wakes5_any (w : World) : Calls Try.prog 16 #[] w fun e w' => e = .returned (.bool true) ∧ Below w.heap.size w w' := by
  obtain ⟨oL, hoL⟩ : ∃ x, x = (Obj.cells #[.string ⟨#[120]⟩, .string ⟨#[121]⟩, .string ⟨#[120]⟩] 9) := ⟨_, rfl⟩
  have hb0 := (Below.refl w.heap.size w).alloc (Nat.le_refl _) oL
  have HB0 := Lib.hid hb0
  have hs0 : Strs6 (w.alloc oL) (.slice (some ⟨w.heap.size, 0, none⟩) 3 3) [⟨#[120]⟩, ⟨#[121]⟩, ⟨#[120]⟩] := by rw [hoL]; exact lit_row w _ _ 3 1 3 rfl
  have HS0 := Lib.hid hs0
  clear hb0 hs0
  go_enter Try.func16, Try.ntmps16
  go_wp2_with fail
  rw [← hoL]
  clear hoL
  generalize w.alloc oL = W0 at *
  have HC := wrong_yes 1 2 1 _ [⟨#[120]⟩, ⟨#[121]⟩, ⟨#[120]⟩] W0 (by omega) (by omega) (by omega) (by omega) (by omega) HS0.out rfl (by intro s hs; simp at hs; rcases hs with rfl | rfl | rfl <;> rfl)
  have e3 : (1 : Nat) + 2 = 3 := rfl
  rw [e3, wakes5_found] at HC
  dsimp only [errO, unlO] at HC
  rw [wakes5_unl] at HC
  refine HC.mono ?_
  rintro e w1 ⟨r, rfl, hown, hb1⟩
  have HB1 := Lib.hid (HB0.out.trans (hb1.mono HB0.out.size))
  have hr : Ints6 w1 r [1] := Ints6.own hown rfl
  obtain ⟨A, c, rfl⟩ := hr.shape
  obtain ⟨oM, hoM⟩ : ∃ x, x = (Obj.cells #[.int .i64 1] 3) := ⟨_, rfl⟩
  have hb2 := (Below.refl w1.heap.size w1).alloc (Nat.le_refl _) oM
  have HB2 := Lib.hid (HB1.out.trans (hb2.mono HB1.out.size))
  have HR2 := Lib.hid (hr.below hb2)
  have HM2 : Hid (Ints6 (w1.alloc oM) (.slice (some ⟨w1.heap.size, 0, none⟩) 1 1) [1]) := by rw [hoM]; exact lit_row w1 _ _ 1 1 1 rfl
  clear hown hb1 hr hb2 HC
  go_wp2_with (first | (go_at_call 13; refine (num5_any _ _).mono ?_; rintro e wn ⟨rfl, rfl⟩))
  rw [← hoM]
  clear hoM
  generalize w1.alloc oM = W2 at *
  refine (eqNums_yes _ _ [1] W2 HR2.out HM2.out (by simp)).mono ?_
  rintro e w5 ⟨rfl, hb5⟩
  have hfin := HB2.out.trans (hb5.mono HB2.out.size)
  clear hb5
  go_wp2_with fail
  go_ret
  exact ⟨rfl, hfin⟩
end Go.Proofs.Ytijcmdcjjcemfaa

/- The first pieces are the data; what small shapes are (plain). -/

namespace Go.Proofs.Ytijcmdcjjcemfaa
set_option linter.unusedVariables false
set_option linter.unusedSimpArgs false

theorem firstL_at {K i : Nat} (h : i < K) : (firstL K).getD i 0 = (i : Int) := by simp [firstL, List.getD, h]
theorem top_gen {n K : Nat} (hK : K ≤ n) (hn : n ≤ 200) : pickL (genL n K) K (firstL K) = oneL K K := by
  have h := firstOk hK
  have hz := h.fits (genL_len n K)
  have hzv := h.fits (vandL_len n K)
  have lT := topL_len hK
  have bT := topL_lt n K
  have lP : (pickL (genL n K) K (firstL K)).length = K * K := by rw [rowL_length hz, firstL_len]
  refine ent_ext lP (oneL_length _ _) (fun i j hi hj => ?_)
  have hi2 : i < (firstL K).length := by rw [firstL_len]; exact hi
  rw [pick_ent hz hi2 hj, firstL_at hi, Int.toNat_natCast, genL, times_ent (by omega) hj, ← (times_inv lT bT (topL_rank hK hn)).1, times_ent hi hj]
  refine dot_congr (fun k hk => ?_) (fun _ _ => rfl)
  rw [topL, pick_ent hzv hi2 hk, firstL_at hi, Int.toNat_natCast]
theorem given_first {K : Nat} {l : List ByteArray} (h : K ≤ l.length) : givenL (firstL K) l = l.take K := by
  apply List.ext_getElem
  · rw [givenL_len, firstL_len, List.length_take]; omega
  · intro i h1 h2
    rw [givenL_len, firstL_len] at h1
    have hl : i < l.length := by omega
    simp [givenL, firstL, List.getD, hl]
/-- The first pieces are the data. -/
theorem take_enc {n K Z : Nat} (hK : K ≤ n) (hn : n ≤ 200) {d : List ByteArray} (hl : d.length = K) (hz : ∀ s ∈ d, s.size = Z) : (applyL (genL n K) d n K Z).take K = d := by
  rw [← given_first (by rw [applyL_length]; exact hK), given_pick (firstOk hK) (genL n K) (genL_len n K), top_gen hK hn, applyL_one hl hz]
theorem code_take {n K Z : Nat} (hK : K ≤ n) (hn : n ≤ 200) {c : List ByteArray} (h : IsCode n K Z c) : applyL (genL n K) (c.take K) n K Z = c := by
  obtain ⟨d, hl, hz, rfl⟩ := h
  rw [take_enc hK hn hl hz]
end Go.Proofs.Ytijcmdcjjcemfaa
