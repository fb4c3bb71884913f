/- lane.Sum where it is refused; lanes told byte by byte; sums taken one lane after the other. -/
import Derived.Test.YtdbdpdeehfeaiaaLaneL
import Derived.Test.YtdbdpdeehfeaiaaEqRow
import Derived.Test.YtdbdpdeehfeaiaaAsk2
namespace Go.Proofs.Ytdbdpdeehfeaiaa
open Go.ChangeShapes Go.WideShapes Go.ChangeAt Go.RowKit Go.Joins
set_option linter.unusedVariables false
set_option linter.unusedSimpArgs false

theorem below_of_drew {w w' : World} (h : Below w.drew.heap.size w.drew w') : Below w.heap.size w w' :=
  (show Below w.heap.size w w.drew from ⟨rfl, rfl, rfl, Nat.le_refl _, fun _ _ => rfl⟩).trans h
theorem total_mem {ss : List ByteArray} {s : ByteArray} (h : s ∈ ss) : s.size ≤ total ss := by
  obtain ⟨i, hi, rfl⟩ := List.getElem_of_mem h
  have := total_get hi
  rwa [← List.getElem_eq_getD (h := hi)] at this

theorem str_ext {a b : ByteArray} (hs : a.size = b.size) (h : ∀ i, i < a.size → byN a i = byN b i) : a = b := by
  apply ByteArray.ext
  apply Array.ext
  · exact hs
  · intro i h1 h2
    have := h i h1
    rw [byN_eq h1, byN_eq h2] at this
    exact UInt8.toNat_inj.1 this
theorem byN_added (a b : ByteArray) {i : Nat} (h : i < a.size) : byN (addedS a b) i = byN a i ^^^ byN b i := by
  rw [addedS, byN_strOf8 (f := fun i => byN a i ^^^ byN b i) h (Nat.xor_lt_two_pow (n := 8) (byN_lt a i) (byN_lt b i))]
theorem byN_scaled (a : ByteArray) (c : Nat) {i : Nat} (h : i < a.size) : byN (scaledS a c) i = Gf.mul (byN a i) c := by
  rw [scaledS, byN_strOf8 (f := fun i => Gf.mul (byN a i) c) h (Gf.mul_lt c (byN_lt a i))]
theorem byN_mix (a b : ByteArray) (c : Nat) {i : Nat} (h : i < a.size) : byN (mixS a b c) i = byN a i ^^^ Gf.mul (byN b i) c := by
  rw [mixS, byN_strOf8 (f := fun i => byN a i ^^^ Gf.mul (byN b i) c) h (Nat.xor_lt_two_pow (n := 8) (byN_lt a i) (Gf.mul_lt c (byN_lt b i)))]
theorem strOf8_bytes (s : ByteArray) : strOf8 (bytesOf s) = s := by
  apply str_ext
  · rw [strOf8_size, bytesOf_length]
  · intro i hi
    rw [strOf8_size, bytesOf_length] at hi
    rw [bytesOf_range, byN_strOf8 (f := byN s) hi (byN_lt _ _)]
theorem xor_back (a b : Nat) : (a ^^^ b) ^^^ b = a := by rw [Nat.xor_assoc, Nat.xor_self, Nat.xor_zero]
theorem added_twice (a b : ByteArray) : addedS (addedS a b) b = a := by
  apply str_ext
  · rw [addedS_size, addedS_size]
  · intro i hi
    rw [addedS_size, addedS_size] at hi
    rw [byN_added _ _ (by rw [addedS_size]; exact hi), byN_added _ _ hi, xor_back]
theorem scaled_added (a b : ByteArray) (c : Nat) (h : a.size ≤ b.size) : scaledS (addedS a b) c = mixS (scaledS a c) b c := by
  apply str_ext
  · rw [scaledS_size, addedS_size, mixS_size, scaledS_size]
  · intro i hi
    rw [scaledS_size, addedS_size] at hi
    rw [byN_scaled _ _ (by rw [addedS_size]; exact hi), byN_added _ _ hi, byN_mix _ _ _ (by rw [scaledS_size]; exact hi), byN_scaled _ _ hi, Gf.mul_xor_left _ (byN_lt _ _) (byN_lt _ _)]

/-- The sum of the first k lanes. -/
def wantK (L : List ByteArray) (n k : Nat) : ByteArray := strOf8 (sumL L n k)
theorem sumL_lt {L : List ByteArray} {n : Nat} (hL : ∀ s ∈ L, s.size = n) : ∀ k, k ≤ L.length → ∀ x ∈ sumL L n k, x < 256
  | 0, _ => by intro x hx; rw [sumL_zero] at hx; rw [List.eq_of_mem_replicate hx]; decide
  | k + 1, h => by
    have ih := sumL_lt hL k (by omega)
    have hl := sumL_length (n := n) k (by omega : k ≤ L.length)
    intro x hx
    rw [sumL_succ (by omega)] at hx
    obtain ⟨j, hj, rfl⟩ := List.getElem_of_mem hx
    rw [intoL_length, hl] at hj
    have hget := intoL_get (L[k]'(by omega)) 1 0 n (sumL L n k) j hj (by rw [hl]; omega)
    rw [Nat.zero_add] at hget
    rw [List.getElem_eq_getD (fallback := 0), hget]
    exact Nat.xor_lt_two_pow (n := 8) (by rw [← List.getElem_eq_getD (h := by rw [hl]; exact hj)]; exact ih _ (List.getElem_mem _)) (Gf.mul_lt 1 (byN_lt _ _))
theorem wantK_size {L : List ByteArray} {n k : Nat} (h : k ≤ L.length) : (wantK L n k).size = n := by rw [wantK, strOf8_size, sumL_length k h]
theorem wantK_succ {L : List ByteArray} {n k : Nat} (hL : ∀ s ∈ L, s.size = n) (h : k < L.length) : wantK L n (k + 1) = addedS (wantK L n k) (L[k]'h) := by
  have hb : bytesOf (wantK L n k) = sumL L n k := bytesOf_strOf8 (sumL_lt hL k (by omega))
  have hs : (wantK L n k).size = n := wantK_size (by omega)
  rw [← mixS_one, ← intoL_mix, hb, hs, wantK, sumL_succ h]
theorem zero_added (n : Nat) (s : ByteArray) (h : s.size = n) : addedS (zeroS n) s = s := by
  apply str_ext
  · rw [addedS_size, zeroS_size, h]
  · intro i hi
    rw [addedS_size, zeroS_size] at hi
    rw [byN_added _ _ (by rw [zeroS_size]; exact hi), byN_zero, Nat.zero_xor]
theorem wantK_one {L : List ByteArray} {n : Nat} (hL : ∀ s ∈ L, s.size = n) (h : 0 < L.length) : wantK L n 1 = L[0]'h := by
  rw [wantK_succ hL h]
  exact zero_added n _ (hL _ (List.getElem_mem h))
theorem sumS_want (L : List ByteArray) {n : Nat} (h : (L.getD 0 ByteArray.empty).size = n) : sumS L = wantK L n L.length := by rw [sumS, h]; rfl

/-- What lane.Sum tells is wrong. -/
def sumE (L : List ByteArray) : Int := if L.length = 0 then 1 else mayN L
theorem mayGo_in (f : Nat) : ∀ (L : List ByteArray) (e : Int), (e = 0 ∨ e = 1) → mayGo f L e = 0 ∨ mayGo f L e = 1 ∨ mayGo f L e = 2
  | [], e, h => by rw [mayGo]; omega
  | s :: r, e, h => by
    rw [mayGo]
    split
    · omega
    · exact mayGo_in f r _ (by split <;> omega)
theorem mayN_in (L : List ByteArray) : mayN L = 0 ∨ mayN L = 1 ∨ mayN L = 2 := mayGo_in _ _ _ (Or.inl rfl)
theorem may_nil : mayN [] = 0 := rfl

set_option maxRecDepth 100000 in
set_option maxHeartbeats 1000000 in
theorem sum_no (v : Value) (L : List ByteArray) (w : World) (hS : Strs6 w v L) (hl : L.length ≤ 100000) (h : sumE L ≠ 0) :
    Calls Try.prog 18 #[v] w fun e w' => e = .returned (.tuple #[.string ⟨#[]⟩, .int .i64 (sumE L)]) ∧ Below w.heap.size w w' := by
  obtain ⟨A, cap, rfl⟩ := hS.shape
  have HR := Lib.hid hS
  clear hS
  by_cases h0 : L.length = 0
  · have hm : mayN L = 0 := by rw [List.eq_nil_of_length_eq_zero h0]; rfl
    have HE : Hid (sumE L = 1) := by rw [Hid, sumE, if_pos h0]
    have HM := Lib.hid hm
    have hd : ((L.length : Int) == 0) = true := by rw [h0]; rfl
    clear h h0 hm
    go_enter Try.func18, Try.ntmps18
    go_wp2_with fail
    refine (may_any _ L _ HR.out hl).mono ?_
    rintro e w1 ⟨rfl, hb1⟩
    rw [HM.out]
    go_wp2_with fail
    go_ret2
    exact ⟨by rw [HE.out]; rfl, hb1⟩
  · have hm := mayN_in L
    rw [sumE, if_neg h0] at h
    have HE : Hid (sumE L = mayN L) := by rw [Hid, sumE, if_neg h0]
    obtain ⟨r, hr⟩ : ∃ r, r = mayN L := ⟨_, rfl⟩
    rw [← hr] at hm h
    have HM := Lib.hid hr
    have hd : (r != 0) = true := by rw [bne_iff_ne]; exact h
    have hmx : max r 1 = r := by omega
    clear h0 hr
    go_enter Try.func18, Try.ntmps18
    go_wp2_with fail
    refine (may_any _ L _ HR.out hl).mono ?_
    rintro e w1 ⟨rfl, hb1⟩
    rw [← HM.out]
    clear hm h
    go_wp2_with fail
    go_ret2
    exact ⟨by rw [HE.out, ← HM.out, ← hmx]; rfl, hb1⟩
end Go.Proofs.Ytdbdpdeehfeaiaa
