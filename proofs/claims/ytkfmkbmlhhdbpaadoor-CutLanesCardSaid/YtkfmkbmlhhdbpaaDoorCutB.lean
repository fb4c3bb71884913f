/- How many stripes; what is refused; what comes in to the laws of cutting. -/
import Derived.Test.YtkfmkbmlhhdbpaaDoorCutA
namespace Go.Proofs.YtkfmkbmlhhdbpaaDoor
open Go.ChangeShapes Go.WideShapes Go.ChangeAt Go.RowKit Go.Joins
set_option linter.unusedVariables false
set_option linter.unusedSimpArgs false

theorem below_of_drew {w w' : World} (h : Below w.drew.heap.size w.drew w') : Below w.heap.size w w' :=
  (show Below w.heap.size w w.drew from ⟨rfl, rfl, rfl, Nat.le_refl _, fun _ _ => rfl⟩).trans h

set_option maxRecDepth 100000 in
set_option maxHeartbeats 400000 in
theorem num7_any (n : Int) (w : World) :
    Calls Tryd.prog 11 #[.int .i64 n] w fun e w' => e = .returned (.int .i64 n) ∧ w = w' := by
  go_enter Tryd.func11, Tryd.ntmps11
  go_wp2
  go_ret
  exact ⟨rfl, rfl⟩

/-- How many stripes bytes take. -/
def stripesV (k z n : Int) : Int := (((n.toNat + (k * z).toNat - 1) / (k * z).toNat : Nat) : Int)

set_option maxRecDepth 100000 in
set_option maxHeartbeats 1000000 in
theorem many_yes (k m z n : Int) (w : World) (hmay : mayB (k, m, z) = true) (h0 : 0 ≤ n) (hn : n ≤ 2000) :
    Calls Tryd.prog 30 #[.agg #[.int .i64 k, .int .i64 m, .int .i64 z], .int .i64 n] w fun e w' => e = .returned (.int .i64 (stripesV k z n)) ∧ Below w.heap.size w w' := by
  obtain ⟨hb, g0, g1, g2, hsz⟩ := box3_facts w (.int .i64 k) (.int .i64 m) (.int .i64 z) 31
  obtain ⟨lg, hlg, hlg1, hlg2, k1, k8, m0, m6, z1, z120⟩ := lg_facts hmay
  obtain ⟨a, rfl⟩ : ∃ a : Nat, n = (a : Int) := ⟨n.toNat, by omega⟩
  unfold stripesV
  rw [hlg, Int.toNat_natCast, Int.toNat_natCast]
  obtain ⟨nn, hnn, hnn2, hnn3⟩ : ∃ nn : Nat, (a : Int) + (lg : Int) - 1 = (nn : Int) ∧ nn ≤ 3000 ∧ a + lg - 1 = nn := ⟨a + lg - 1, by omega, by omega, rfl⟩
  rw [hnn3]
  obtain ⟨q, hq, hq2, hq3⟩ : ∃ q : Nat, (nn : Int) / (lg : Int) = (q : Int) ∧ q ≤ 3000 ∧ nn / lg = q := ⟨nn / lg, by omega, by have := Nat.div_le_self nn lg; omega, rfl⟩
  rw [hq3]
  clear hnn3 hq3 hmay
  go_enter Tryd.func30, Tryd.ntmps30
  go_wp2
  go_ret
  exact ⟨rfl, hb⟩


def stripesOk (k m z n : Int) : Bool := mayB (k, m, z) && decide (0 ≤ n ∧ n ≤ 2000)

def strV (k m z n : Int) : Int := if stripesOk k m z n then stripesV k z n else 0
def strE (k m z n : Int) : Int := if stripesOk k m z n then 0 else 1

set_option maxRecDepth 100000 in
set_option maxHeartbeats 1000000 in
theorem cutStripes_any (k m z n : Int) (w : World) :
    Calls Tryd.prog 19 #[.agg #[.int .i64 k, .int .i64 m, .int .i64 z], .int .i64 n] w fun e w' => e = .returned (.tuple #[.int .i64 (strV k m z n), .int .i64 (strE k m z n)]) ∧ Below w.heap.size w w' := by
  unfold strV strE
  obtain ⟨hb, h0, h1, h2, hsz⟩ := box3_facts w (.int .i64 k) (.int .i64 m) (.int .i64 z) 31
  cases hok : stripesOk k m z n
  · simp only [stripesOk, Bool.and_eq_false_iff, decide_eq_false_iff_not] at hok
    go_enter Tryd.func19, Tryd.ntmps19
    go_wp2_with fail
    refine (may_any k m z _).mono ?_
    rintro e w' ⟨rfl, hb1⟩
    have hb2 := hb.trans (hb1.mono hb.size)
    clear hb hb1 h0 h1 h2 hsz
    cases hmb : mayB (k, m, z)
    · go_wp2_with fail
      go_ret2
      exact ⟨rfl, hb2⟩
    · rw [hmb] at hok
      have hn : ¬ (0 ≤ n ∧ n ≤ 2000) := by simpa using hok
      clear hok hmb
      by_cases c1 : n < 0
      · have : decide (n < 0) = true := by simp; omega
        go_wp2_with fail
        go_ret2
        exact ⟨rfl, hb2⟩
      have d1 : decide (n < 0) = false := by simp; omega
      have d2 : decide (2000 < n) = true := by simp; omega
      go_wp2_with fail
      go_ret2
      exact ⟨rfl, hb2⟩
  · simp only [stripesOk, Bool.and_eq_true, decide_eq_true_eq] at hok
    obtain ⟨hmay, hn0, hn⟩ := hok
    have d1 : decide (n < 0) = false := by simp; omega
    have d2 : decide (2000 < n) = false := by simp; omega
    go_enter Tryd.func19, Tryd.ntmps19
    go_wp2_with fail
    refine (may_any k m z _).mono ?_
    rintro e w' ⟨rfl, hb1⟩
    rw [hmay]
    have g0 := below_cellj h0 hsz hb1
    have g1 := below_cellj h1 hsz hb1
    have g2 := below_cellj h2 hsz hb1
    have hb2 := hb.trans (hb1.mono hb.size)
    clear hb hb1 h0 h1 h2 hsz
    go_wp2_with fail
    refine (many_yes k m z n _ hmay hn0 hn).mono ?_
    rintro e w2 ⟨rfl, hb3⟩
    have hb4 := hb2.trans (hb3.mono hb2.size)
    clear hb3
    go_wp2_with fail
    go_ret2
    exact ⟨rfl, hb4⟩

/-- What a text's parts, or the error, come to. -/
def partsErr (k m z : Int) (t : ByteArray) : Int := if mayB (k, m, z) then (if t.size ≤ 2000 then 0 else 2) else 1
def partsWant (k m z : Int) (t : ByteArray) : List ByteArray := if mayB (k, m, z) && decide (t.size ≤ 2000) then partsOf (k * z).toNat t else []

set_option maxRecDepth 100000 in
set_option maxHeartbeats 1000000 in
theorem cutParts_any (k m z : Int) (t : ByteArray) (w : World) (ht : t.size ≤ 140737488351232) :
    Calls Tryd.prog 18 #[.agg #[.int .i64 k, .int .i64 m, .int .i64 z], .string t] w fun e w' => ∃ v, e = .returned (.tuple #[v, .int .i64 (partsErr k m z t)]) ∧ StrsIn w' v (partsWant k m z t) ∧ Below w.heap.size w w' := by
  unfold partsErr partsWant
  cases hmb : mayB (k, m, z)
  · obtain ⟨hb, h0, h1, h2, hsz⟩ := box3_facts w (.int .i64 k) (.int .i64 m) (.int .i64 z) 31
    go_enter Tryd.func18, Tryd.ntmps18
    go_wp2_with fail
    refine (may_any k m z _).mono ?_
    rintro e w' ⟨rfl, hb1⟩
    rw [hmb]
    have hb2 := hb.trans (hb1.mono hb.size)
    clear hb hb1 h0 h1 h2 hsz
    go_wp2_with fail
    go_ret2
    exact ⟨_, rfl, StrsIn.nil _ _ _, hb2⟩
  · by_cases hs : t.size ≤ 2000
    · refine (cutParts_yes k m z t w hmb hs).mono ?_
      rintro e w' ⟨v, rfl, hv, hb⟩
      exact ⟨v, by simp [hs], by simpa [hs] using hv, hb⟩
    · obtain ⟨hb, h0, h1, h2, hsz⟩ := box3_facts w (.int .i64 k) (.int .i64 m) (.int .i64 z) 31
      have d1 : decide (2000 < (t.size : Int)) = true := by simp; omega
      have e1 : (if true = true then (if t.size ≤ 2000 then (0 : Int) else 2) else 1) = 2 := by simp [hs]
      have e2 : (if (true && decide (t.size ≤ 2000)) = true then partsOf (k * z).toNat t else []) = [] := by simp [hs]
      rw [e1, e2]
      clear e1 e2 hs
      go_enter Tryd.func18, Tryd.ntmps18
      go_wp2_with fail
      refine (may_any k m z _).mono ?_
      rintro e w' ⟨rfl, hb1⟩
      rw [hmb]
      have hb2 := hb.trans (hb1.mono hb.size)
      clear hb hb1 h0 h1 h2 hsz
      go_wp2_with fail
      go_ret2
      exact ⟨_, rfl, StrsIn.nil _ _ _, hb2⟩

set_option maxRecDepth 100000 in
set_option maxHeartbeats 1000000 in
theorem wakes7_any (w : World) :
    Calls Tryd.prog 17 #[] w fun e w' => e = .returned (.bool true) ∧ Below w.heap.size w w' := by
  have h1 : strV 2 1 3 1 = 1 := by decide
  have h2 : strE 2 1 3 1 = 0 := by decide
  go_enter Tryd.func17, Tryd.ntmps17
  go_wp2_with fail
  refine (cutStripes_any 2 1 3 1 _).mono ?_
  rw [h1, h2]
  rintro e w1 ⟨rfl, hb⟩
  go_wp2_with (first
    | (go_at_call 11; refine (num7_any _ _).mono ?_; rintro e w' ⟨rfl, rfl⟩))
  go_ret
  exact ⟨rfl, hb⟩

theorem cellsAsk7 : Tryd.prog.cellsOf 28 = 4 := by kernel_rfl

/-- What a struct of shapes, texts, truths and a number holds. -/
structure Ask7 (W : World) (cS cL cB : Value) (N : Int) (S : List T3) (L : List ByteArray) (Bs : List Bool) : Prop where
  hS : ThreesIn W cS S
  hS2 : S.length ≤ 9223372036854775807
  hS3 : ∀ s ∈ S, i64Ok s.1 ∧ i64Ok s.2.1 ∧ i64Ok s.2.2
  hL : TextsIn W cL L
  hB : BoolsIn W cB Bs
  hN : i64Ok N
theorem Ask7.below {W W' : World} {cS cL cB : Value} {N : Int} {S : List T3} {L : List ByteArray} {Bs : List Bool} (q : Ask7 W cS cL cB N S L Bs) (hb : Below W.heap.size W W') : Ask7 W' cS cL cB N S L Bs :=
  ⟨q.hS.below hb, q.hS2, q.hS3, q.hL.below hb, q.hB.below hb, q.hN⟩

theorem ask7_open {H : Type} {enc : TypeId × Value → H} {W : World} {b0 base : Nat} {r : Reach} {spare : Nat → Bool} {held : Bool} {v : Value} {d : DataW H} {p : List MemPlace}
    (hv : Value.okWide Tryd.prog W r b0 28 v) (h : DataW.Trod enc Tryd.prog W base spare held 28 v d p) (hf : Fits Tryd.prog 28 d) :
    ∃ cS cL cB N, v = .agg #[cS, cL, cB, .int .i64 N] ∧ ∃ S L Bs, Ask7 W cS cL cB N S L Bs := by
  obtain ⟨cs, rfl, hsz⟩ := okWide_struct Tryd.underlying28 hv
  obtain ⟨fuel, h⟩ := h
  obtain ⟨l⟩ := cs
  match l, hsz.trans cellsAsk7 with
  | [c0, c1, c2, c3], _ =>
    obtain ⟨n0, y0, h0, f0⟩ := open_field Tryd.underlying28 h hf 0 rfl [c0, c1, c2] cellsAsk4 rfl
    obtain ⟨n1, y1, h1, f1⟩ := open_field Tryd.underlying28 h hf 1 rfl [c3] cellsInt rfl
    obtain ⟨⟨S, hS, hS2, hS3⟩, ⟨L, hL⟩, ⟨Bs, hB⟩⟩ := ask4_open h0 f0
    obtain ⟨N, eN, _, bN⟩ := DataW.trod_int Tryd.underlying3 h1
    simp only [List.cons.injEq, and_true] at eN
    subst eN
    exact ⟨_, _, _, N, rfl, S, L, Bs, hS, hS2, hS3, hL, hB, i64Ok_of bN⟩
theorem box4_facts (w : World) (a b c d : Value) (T : TypeId) :
    Below w.heap.size w (w.alloc (.cells #[a, b, c, d] T)) ∧ (w.alloc (.cells #[a, b, c, d] T)).cell? ⟨w.heap.size, 0, none⟩ = some a ∧ (w.alloc (.cells #[a, b, c, d] T)).cell? ⟨w.heap.size, 1, none⟩ = some b ∧ (w.alloc (.cells #[a, b, c, d] T)).cell? ⟨w.heap.size, 2, none⟩ = some c ∧
      (w.alloc (.cells #[a, b, c, d] T)).cell? ⟨w.heap.size, 3, none⟩ = some d ∧ (w.alloc (.cells #[a, b, c, d] T)).heap.size = w.heap.size + 1 :=
  ⟨(Below.refl _ _).alloc (Nat.le_refl _) _, by simp [go_sem], by simp [go_sem], by simp [go_sem], by simp [go_sem], by simp⟩

/-- A slice value of these numbers. -/
def NumRow (w : World) (v : Value) (zs : List Int) : Prop := RowIs w v zs.length 1 (zs.map (Value.int .i64))
theorem NumRow.below {w w' : World} {v : Value} {l : List Int} (h : NumRow w v l) (hb : Below w.heap.size w w') : NumRow w' v l := RowIs.below h hb
theorem NumRow.at_lit {w : World} {g n c : Nat} {l : List Int} (h : NumRow w (.slice (some ⟨g, 0, none⟩) n c) l) {k : Nat} (hk : k < l.length) :
    ∃ x, l[k]? = some x ∧ w.cell? ⟨g, k, none⟩ = some (.int .i64 x) := by
  obtain ⟨b, o, c', e, hlt, hc⟩ := RowIs.at_ h hk
  cases e
  obtain ⟨u, h1, h2⟩ := hc 0 (by omega)
  simp [hk] at h1
  refine ⟨l[k], List.getElem?_eq_getElem hk, ?_⟩
  rw [Nat.mul_one, Nat.add_zero, Nat.zero_add] at h2
  rw [h2, h1]
end Go.Proofs.YtkfmkbmlhhdbpaaDoor
