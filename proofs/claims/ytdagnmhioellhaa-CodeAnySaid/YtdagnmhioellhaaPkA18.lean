/- Rows of powers of distinct numbers: a right inverse (plain). -/
import Derived.Test.YtdagnmhioellhaaPkA17
import Derived.Test.YtdagnmhioellhaaPkA04
namespace Go.Proofs.Ytdagnmhioellhaa
set_option linter.unusedVariables false
set_option linter.unusedSimpArgs false

/-- The coefficients of the product of all X + y. -/
def polyC : List Nat → Nat → Nat
  | [], 0 => 1
  | [], _ + 1 => 0
  | y :: ys, 0 => Gf.mul y (polyC ys 0)
  | y :: ys, k + 1 => polyC ys k ^^^ Gf.mul y (polyC ys (k + 1))
/-- That product at x. -/
def polyE (x : Nat) : List Nat → Nat
  | [] => 1
  | y :: ys => Gf.mul (x ^^^ y) (polyE x ys)
theorem polyC_lt : ∀ (ys : List Nat), (∀ y ∈ ys, y < 256) → ∀ k, polyC ys k < 256
  | [], _, 0 => by rw [polyC]; omega
  | [], _, _ + 1 => by rw [polyC]; omega
  | y :: ys, h, 0 => by rw [polyC]; exact Gf.mul_lt _ (h y (by simp))
  | y :: ys, h, k + 1 => by
    rw [polyC]
    exact Gf.xor_lt (polyC_lt ys (fun z hz => h z (by simp [hz])) k) (Gf.mul_lt _ (h y (by simp)))
theorem polyE_lt {x : Nat} (hx : x < 256) : ∀ (ys : List Nat), (∀ y ∈ ys, y < 256) → polyE x ys < 256
  | [], _ => by rw [polyE]; omega
  | y :: ys, h => by rw [polyE]; exact Gf.mul_lt _ (Gf.xor_lt hx (h y (by simp)))
theorem polyC_zero : ∀ (ys : List Nat) (k : Nat), ys.length < k → polyC ys k = 0
  | [], 0, h => by simp at h
  | [], _ + 1, _ => rfl
  | y :: ys, 0, h => by simp at h
  | y :: ys, k + 1, h => by
    rw [List.length_cons] at h
    rw [polyC, polyC_zero ys k (by omega), polyC_zero ys (k + 1) (by omega), Gf.mul_zero, Nat.xor_zero]
theorem dot_shift (u v : Nat → Nat) : ∀ f, dot (f + 1) u v = Gf.mul (u 0) (v 0) ^^^ dot f (fun k => u (k + 1)) (fun k => v (k + 1))
  | 0 => by rw [dot_succ, dot_zero, dot_zero, Nat.zero_xor, Nat.xor_zero]
  | f + 1 => by rw [dot_succ, dot_shift u v f, dot_succ, Nat.xor_assoc]
theorem pow_succ' {x : Nat} (hx : x < 256) (k : Nat) : Gf.pow x (k + 1) = Gf.mul x (Gf.pow x k) := by
  rw [Gf.pow, Gf.mul_comm (Gf.pow_lt x k) hx]
theorem poly_eval {x : Nat} (hx : x < 256) : ∀ (ys : List Nat), (∀ y ∈ ys, y < 256) → ∀ K, ys.length < K → dot K (fun k => Gf.pow x k) (polyC ys) = polyE x ys
  | [], _, 0, h => by simp at h
  | [], _, K + 1, h => by
    rw [dot_shift, dot_none_right (v := fun k => polyC [] (k + 1)) (fun k _ => rfl), Nat.xor_zero]
    exact Gf.one_mul 1 (by omega)
  | y :: ys, _, 0, h => by simp at h
  | y :: ys, hy, K + 1, h => by
    have hys : ∀ z ∈ ys, z < 256 := fun z hz => hy z (by simp [hz])
    have hy0 : y < 256 := hy y (by simp)
    have bC := polyC_lt ys hys
    have bp : B8 (fun k => Gf.pow x k) := fun k => Gf.pow_lt x k
    rw [List.length_cons] at h
    have e1 : dot (K + 1) (fun k => Gf.pow x k) (polyC (y :: ys)) = dot (K + 1) (fun k => Gf.pow x k) (fun k => (if k = 0 then 0 else polyC ys (k - 1)) ^^^ Gf.mul y (polyC ys k)) :=
      dot_congr (fun _ _ => rfl) (fun k _ => by
        cases k with
        | zero => rw [polyC, if_pos rfl, Nat.zero_xor]
        | succ k => rw [polyC, if_neg (by omega), Nat.add_sub_cancel])
    have b1 : B8 (fun k => if k = 0 then 0 else polyC ys (k - 1)) := fun k => by dsimp only; split; omega; exact bC _
    rw [e1, dot_add_right bp b1 (fun k => Gf.mul_lt _ hy0), dot_smul_right hy0 bp bC, poly_eval hx ys hys (K + 1) (by omega), dot_shift, if_pos rfl, Gf.mul_zero, Nat.zero_xor]
    have e2 : dot K (fun k => Gf.pow x (k + 1)) (fun k => if k + 1 = 0 then 0 else polyC ys (k + 1 - 1)) = Gf.mul x (dot K (fun k => Gf.pow x k) (polyC ys)) := by
      rw [← dot_smul_left hx bp bC]
      exact dot_congr (fun k _ => pow_succ' hx k) (fun k _ => by rw [if_neg (by omega), Nat.add_sub_cancel])
    rw [e2, poly_eval hx ys hys K (by omega), polyE, Gf.mul_xor_left _ hx hy0]
theorem polyE_zero {x : Nat} (hx : x < 256) : ∀ (ys : List Nat), x ∈ ys → (∀ y ∈ ys, y < 256) → polyE x ys = 0
  | [], h, _ => by simp at h
  | y :: ys, h, hy => by
    rw [polyE]
    rcases List.mem_cons.1 h with rfl | h
    · rw [Nat.xor_self, Gf.zero_mul _ (polyE_lt hx ys fun z hz => hy z (by simp [hz]))]
    · rw [polyE_zero hx ys h (fun z hz => hy z (by simp [hz])), Gf.mul_zero]
theorem xor_ne_zero {x y : Nat} (h : y ≠ x) : x ^^^ y ≠ 0 := by
  intro e
  have := congrArg (fun z => z ^^^ y) e
  simp only [Nat.xor_assoc, Nat.xor_self, Nat.xor_zero, Nat.zero_xor] at this
  exact h this.symm
theorem polyE_ne {x : Nat} (hx : x < 256) : ∀ (ys : List Nat), (∀ y ∈ ys, y ≠ x) → (∀ y ∈ ys, y < 256) → polyE x ys ≠ 0
  | [], _, _ => by rw [polyE]; omega
  | y :: ys, h, hy => by
    rw [polyE]
    have hys : ∀ z ∈ ys, z < 256 := fun z hz => hy z (by simp [hz])
    exact Gf.mul_ne (Gf.xor_lt hx (hy y (by simp))) (polyE_lt hx ys hys) (xor_ne_zero (h y (by simp))) (polyE_ne hx ys (fun z hz => h z (by simp [hz])) hys)

/-- A right inverse of the rows of powers of xs. -/
def lagr (xs : List Nat) (k j : Nat) : Nat := Gf.mul (Gf.inv (polyE (xs.getD j 0) (xs.eraseIdx j))) (polyC (xs.eraseIdx j) k)
theorem lagr_lt {xs : List Nat} (k : Nat) : B8 (lagr xs k) := fun j => Gf.mul_lt _ (Gf.inv_lt _)
theorem lagr_right {xs : List Nat} (hx : ∀ x ∈ xs, x < 256) (hd : xs.Nodup) {i j : Nat} (hi : i < xs.length) (hj : j < xs.length) :
    dot xs.length (fun k => Gf.pow (xs.getD i 0) k) (fun k => lagr xs k j) = if i = j then 1 else 0 := by
  have gi : xs.getD i 0 = xs[i] := by simp [List.getD, hi]
  have gj : xs.getD j 0 = xs[j] := by simp [List.getD, hj]
  have hxe : ∀ y ∈ xs.eraseIdx j, y < 256 := fun y hy => hx y (List.mem_of_mem_eraseIdx hy)
  have hlen : (xs.eraseIdx j).length < xs.length := by rw [List.length_eraseIdx, if_pos hj]; omega
  have bi : xs.getD i 0 < 256 := by rw [gi]; exact hx _ (List.getElem_mem _)
  unfold lagr
  rw [dot_smul_right (Gf.inv_lt _) (fun k => Gf.pow_lt _ k) (polyC_lt _ hxe), poly_eval bi _ hxe _ hlen]
  by_cases h : i = j
  · subst h
    rw [if_pos rfl]
    refine Gf.mul_inv (polyE_lt bi _ hxe) (polyE_ne bi _ (fun y hy e => ?_) hxe)
    obtain ⟨t, ht, hne, he⟩ := List.mem_eraseIdx_iff_getElem.1 hy
    rw [e, gi] at he
    exact hne ((List.getElem_inj hd).1 he)
  · rw [if_neg h, polyE_zero bi _ ?_ hxe, Gf.mul_zero]
    rw [gi]
    exact List.mem_eraseIdx_iff_getElem.2 ⟨i, hi, h, rfl⟩

/-- Who has a right inverse has the full rank. -/
theorem rank_right {n : Nat} {ns : List Nat} {Y : Nat → Nat → Nat} (hl : ns.length = n * n) (hb : ∀ x ∈ ns, x < 256) (hY : ∀ k, B8 (Y k))
    (h : ∀ i j, i < n → j < n → dot n (ent n ns i) (fun k => Y k j) = if i = j then 1 else 0) : rankL n n ns = n := by
  have hs := steps_all (B := fun k j => ent n ns k j) (fun k j => ent_lt hb k j) hl (oneL_length n n) hb (oneL_all n n) (one_prod hb) n (Nat.le_refl n)
  obtain ⟨G, hG, hd⟩ := undo_all (B := fun k j => ent n ns k j) (fun k j => ent_lt hb k j) hl (oneL_length n n) hb (oneL_all n n) (one_prod hb) n (Nat.le_refl n)
  have hle := (rankL_le n n ns).1
  have hrk : (elim n n n ns (oneL n n) n).2.2 = rankL n n ns := rankL_of n n n ns (oneL n n)
  have hz := hs.zero
  have bF := hs.bM
  rw [hrk] at hz
  generalize (elim n n n ns (oneL n n) n).1 = F at *
  have hm : ∀ j, B8 (fun k => Y k j) := fun j k => hY k j
  have := id_le (rankL n n ns) n G (fun k j => dot n (ent n F k) (fun t => Y t j)) hG (fun k j => dot_lt (ent_lt bF k) n) (fun i j hi hj => by
    rw [← h i j hi hj, ← dot_cut n hle (fun k h1 h2 => dot_none_left (hm j) (fun t ht => hz k t h1 h2 ht)), ← dot_dot (hG i) (fun k => ent_lt bF k) (hm j) n n]
    exact dot_congr (fun t ht => (hd i t hi ht).symm) (fun _ _ => rfl))
  omega
end Go.Proofs.Ytdagnmhioellhaa

/- Whether some row's number is none: slices.ContainsFunc over numbers, walked. -/

namespace Go.Proofs.Ytdagnmhioellhaa
open Go.ChangeShapes Go.WideShapes Go.ChangeAt Go.RowKit Go.Joins
set_option linter.unusedVariables false
set_option linter.unusedSimpArgs false

/-- A row's number that is none. -/
def badI (R x : Int) : Bool := decide (x < 0) || decide (R ≤ x)

set_option maxRecDepth 100000 in
theorem pickBad_is (x R : Int) (B : Nat) (b : Bool) (hb : badI R x = b) (w : World) (h : w.cell? ⟨B, 0, none⟩ = some (.int .i64 R)) :
    Calls Try.prog 62 #[.int .i64 x, .pointer (some ⟨B, 0, none⟩)] w fun e w' => e = .returned (.bool b) ∧ w = w' := by
  unfold badI at hb
  by_cases h1 : x < 0
  · have hd : decide (x < 0) = true := decide_eq_true h1
    rw [hd] at hb
    have HB : Hid (b = true) := by rw [Hid, ← hb]; rfl
    clear hb h1
    go_enter Try.func62, Try.ntmps62
    go_wp2_with fail
    go_ret
    exact ⟨by rw [HB.out]; rfl, rfl⟩
  · have hd : decide (x < 0) = false := decide_eq_false h1
    rw [hd] at hb
    by_cases h2 : R ≤ x
    · have he : decide (R ≤ x) = true := decide_eq_true h2
      rw [he] at hb
      have HB : Hid (b = true) := by rw [Hid, ← hb]; rfl
      clear hb h1
      go_enter Try.func62, Try.ntmps62
      go_wp2_with fail
      go_ret
      exact ⟨by rw [HB.out]; rfl, rfl⟩
    · have he : decide (R ≤ x) = false := decide_eq_false h2
      rw [he] at hb
      have HB : Hid (b = false) := by rw [Hid, ← hb]; rfl
      clear hb h1
      go_enter Try.func62, Try.ntmps62
      go_wp2_with fail
      go_ret
      exact ⟨by rw [HB.out]; rfl, rfl⟩

/-- Where the first such one is, or -1. -/
def BadAt (R : Int) (zs : List Int) (w : World) (e : Ending) (w' : World) : Prop := ∃ p : Int, e = .returned (.int .i64 p) ∧ Hid (decide (0 ≤ p) = zs.any (badI R)) ∧ w = w'

set_option maxRecDepth 100000 in
set_option maxHeartbeats 1000000 in
theorem indexBad_any (v : Value) (zs : List Int) (R : Int) (B : Nat) (w : World) (hN : NumsIn w v zs) (h : w.cell? ⟨B, 0, none⟩ = some (.int .i64 R)) :
    Calls Try.prog 79 #[v, .func (.func 62) #[] #[.pointer (some ⟨B, 0, none⟩)]] w (BadAt R zs w) := by
  have hbd := hN.1
  obtain ⟨p, cap, rfl, hS⟩ := numsIn_slice hN
  have hl := hS.1
  have HS := Lib.hid hS
  have HBD := Lib.hid hbd
  clear hN hS hbd
  go_enter Try.func79, Try.ntmps79
  go_wp2_with fail
  go_loop [8] (fun i => ∃ k : Nat, i = .int .i64 k ∧ k ≤ zs.length ∧ Hid ((zs.take k).any (badI R) = false)) (fun i => zs.length - (intOf i).toNat)
  case atStart => exact ⟨0, rfl, by omega, by simp [Hid]⟩
  case round =>
    obtain ⟨k, rfl, hk, HK⟩ := hrel
    by_cases hlt : k < zs.length
    · obtain ⟨b, off, x, rfl, hx, HX, hcell⟩ := num_at HS.out HBD.out hlt
      have i0 : (0 : Int) ≤ (k : Int) := by omega
      have i1 : (k : Int) < (zs.length : Int) := by omega
      have HT : Hid ((zs.take (k + 1)).any (badI R) = badI R x) := by
        rw [Hid, List.take_succ_eq_append_getElem hlt, List.any_append, HK.out]
        simp [HX.out, List.getD, hlt]
      cases hb : badI R x
      · have HBX := Lib.hid hb
        clear hb
        go_wp2_with (first | (go_at_call 62; refine (pickBad_is x R B false HBX.out _ h).mono ?_; rintro e w' ⟨rfl, rfl⟩))
        go_round
        case rel => exact ⟨k + 1, by go_num, by omega, by rw [Hid, HT.out]; exact HBX.out⟩
        case measure => simp [intOf]; omega
      · have HBX := Lib.hid hb
        clear hb
        go_wp2_with (first | (go_at_call 62; refine (pickBad_is x R B true HBX.out _ h).mono ?_; rintro e w' ⟨rfl, rfl⟩))
        go_ret
        refine ⟨_, rfl, ?_, rfl⟩
        rw [Hid, decide_eq_true (by omega)]
        symm
        rw [List.any_eq_true]
        have h1 := HT.out
        rw [HBX.out, List.any_eq_true] at h1
        obtain ⟨y, hy, hyb⟩ := h1
        exact ⟨y, List.mem_of_mem_take hy, hyb⟩
    · have hke : k = zs.length := by omega
      have HT : Hid (zs.any (badI R) = false) := by
        have := HK.out
        rw [hke, List.take_length] at this
        exact this
      clear hke
      go_wp2_with fail
      go_ret
      exact ⟨_, rfl, by rw [Hid, HT.out]; rfl, rfl⟩

set_option maxRecDepth 100000 in
theorem containsBad_is (v : Value) (zs : List Int) (R : Int) (B : Nat) (b : Bool) (hb : zs.any (badI R) = b) (w : World) (hN : NumsIn w v zs) (h : w.cell? ⟨B, 0, none⟩ = some (.int .i64 R)) :
    Calls Try.prog 65 #[v, .func (.func 62) #[] #[.pointer (some ⟨B, 0, none⟩)]] w fun e w' => e = .returned (.bool b) ∧ w = w' := by
  have HI := Lib.hid (indexBad_any v zs R B w hN h)
  have HB := Lib.hid hb
  clear hN h hb
  go_enter Try.func65, Try.ntmps65
  go_wp2_with fail
  refine HI.out.mono ?_
  rintro e w' ⟨p, rfl, HP, rfl⟩
  go_wp2_with fail
  go_ret
  exact ⟨by show Ending.returned (.bool (decide (0 ≤ p))) = _; rw [HP.out, HB.out], rfl⟩
end Go.Proofs.Ytdagnmhioellhaa
