/- Matrices: what may be one; the code's way and the page's, walked. -/
import Derived.Test.YtibinkppbdeofaaLaneE
import Derived.Test.YtibinkppbdeofaaLaneF
import Derived.Test.YtibinkppbdeofaaPowTwo
namespace Go.Proofs.Ytibinkppbdeofaa
open Go.ChangeShapes Go.WideShapes Go.ChangeAt Go.RowKit Go.Joins
set_option linter.unusedVariables false
set_option linter.unusedSimpArgs false

/-- A slice value of these bytes. -/
def BytesV (w : World) (v : Value) (ns : List Nat) : Prop := RowIs w v ns.length 1 (ns.map fun n : Nat => Value.int .u8 (n : Int)) ∧ ∀ n ∈ ns, n < 256
theorem BytesV.below {w w' : World} {v : Value} {ns : List Nat} (h : BytesV w v ns) (hb : Below w.heap.size w w') : BytesV w' v ns := ⟨h.1.below hb, h.2⟩
theorem BytesV.shape {w : World} {v : Value} {ns : List Nat} (h : BytesV w v ns) : ∃ A c, v = .slice A ns.length c := by
  obtain ⟨⟨_, A, c, rfl, _⟩, _⟩ := h
  exact ⟨A, c, rfl⟩
theorem BytesV.at_ {w : World} {A : Option Addr} {c n : Nat} {ns : List Nat} (h : BytesV w (.slice A n c) ns) {k : Nat} (hk : k < ns.length) :
    ∃ b o, A = some ⟨b, o, none⟩ ∧ b < w.heap.size ∧ w.cell? ⟨b, o + k, none⟩ = some (.int .u8 ((ns.getD k 0 : Nat) : Int)) := by
  obtain ⟨b, o, c', e, hlt, hc⟩ := RowIs.at_ h.1 hk
  cases e
  refine ⟨b, o, rfl, hlt, ?_⟩
  obtain ⟨u, h1, h2⟩ := hc 0 (by omega)
  simp [hk] at h1
  rw [Nat.mul_one, Nat.add_zero] at h2
  rw [h2, ← h1]
  simp [List.getD, hk]
theorem BytesV.lt {w : World} {v : Value} {ns : List Nat} (h : BytesV w v ns) (k : Nat) : ns.getD k 0 < 256 := by
  by_cases hk : k < ns.length
  · exact getD_lt h.2 hk
  · simp [List.getD, hk]
theorem BytesV.of_blk {w : World} {B c : Nat} {ns : List Nat} (h : BytesBlk w B ns) (hB : B < w.heap.size) : BytesV w (.slice (some ⟨B, 0, none⟩) ns.length c) ns := by
  refine ⟨⟨by simp, _, _, rfl, fun _ => ⟨B, 0, rfl, hB, fun j u hj => ?_⟩⟩, fun n hn => ?_⟩
  · have hl : j < ns.length := by simpa using (List.getElem?_eq_some_iff.1 hj).1
    have := (h j hl).2.1
    rw [Nat.zero_add, this, ← hj]
    simp [List.getD, hl]
  · obtain ⟨i, hi, rfl⟩ := List.getElem_of_mem hn
    have := (h i hi).1
    rwa [← List.getElem_eq_getD (h := hi)] at this

/-- A matrix's value. -/
def matV (R C : Int) (v : Value) : Value := .agg #[.int .i64 R, .int .i64 C, v]
/-- Whether a matrix may be. -/
def mayM (R C : Int) (n : Nat) : Bool := decide (1 ≤ R ∧ R ≤ 16 ∧ 1 ≤ C ∧ C ≤ 16 ∧ (n : Int) = R * C)
theorem mayM_yes {R C : Int} {n : Nat} (h : mayM R C n = true) : ∃ r c : Nat, R = (r : Int) ∧ C = (c : Int) ∧ 1 ≤ r ∧ r ≤ 16 ∧ 1 ≤ c ∧ c ≤ 16 ∧ n = r * c := by
  obtain ⟨h1, h2, h3, h4, h5⟩ := of_decide_eq_true h
  obtain ⟨r, rfl⟩ : ∃ r : Nat, R = r := ⟨R.toNat, by omega⟩
  obtain ⟨c, rfl⟩ : ∃ c : Nat, C = c := ⟨C.toNat, by omega⟩
  exact ⟨r, c, rfl, rfl, by omega, by omega, by omega, by omega, by exact_mod_cast h5⟩
theorem mul_small {R C : Int} (h1 : 1 ≤ R) (h2 : R ≤ 16) (h3 : 1 ≤ C) (h4 : C ≤ 16) : 1 ≤ R * C ∧ R * C ≤ 256 := by
  obtain ⟨r, rfl⟩ : ∃ r : Nat, R = r := ⟨R.toNat, by omega⟩
  obtain ⟨c, rfl⟩ : ∃ c : Nat, C = c := ⟨C.toNat, by omega⟩
  have a : 1 * 1 ≤ r * c := Nat.mul_le_mul (by omega) (by omega)
  have b : r * c ≤ 16 * 16 := Nat.mul_le_mul (by omega) (by omega)
  have e : ((r * c : Nat) : Int) = (r : Int) * (c : Int) := by simp
  omega

set_option maxRecDepth 100000 in
set_option maxHeartbeats 400000 in
theorem side_any (n : Int) (w : World) :
    Calls Try.prog 46 #[.int .i64 n] w fun e w' => e = .returned (.bool (decide (1 ≤ n ∧ n ≤ 16))) ∧ w = w' := by
  by_cases h1 : 1 ≤ n
  · by_cases h2 : n ≤ 16
    · have d1 : decide (1 ≤ n) = true := decide_eq_true h1
      have d2 : decide (n ≤ 16) = true := decide_eq_true h2
      have H := Lib.hid (decide_eq_true (And.intro h1 h2))
      clear h1 h2
      go_enter Try.func46, Try.ntmps46
      go_wp2_with fail
      go_ret
      exact ⟨by rw [H.out]; rfl, rfl⟩
    · have d1 : decide (1 ≤ n) = true := decide_eq_true h1
      have d2 : decide (n ≤ 16) = false := decide_eq_false h2
      have H := Lib.hid (decide_eq_false (fun h : 1 ≤ n ∧ n ≤ 16 => h2 h.2))
      clear h1 h2
      go_enter Try.func46, Try.ntmps46
      go_wp2_with fail
      go_ret
      exact ⟨by rw [H.out]; rfl, rfl⟩
  · have d1 : decide (1 ≤ n) = false := decide_eq_false h1
    have H := Lib.hid (decide_eq_false (fun h : 1 ≤ n ∧ n ≤ 16 => h1 h.1))
    clear h1
    go_enter Try.func46, Try.ntmps46
    go_wp2_with fail
    go_ret
    exact ⟨by rw [H.out]; rfl, rfl⟩
theorem side_is (n : Int) (b : Bool) (hb : decide (1 ≤ n ∧ n ≤ 16) = b) (w : World) :
    Calls Try.prog 46 #[.int .i64 n] w fun e w' => e = .returned (.bool b) ∧ w = w' := by subst hb; exact side_any n w

set_option maxRecDepth 100000 in
set_option maxHeartbeats 400000 in
theorem between3_any (n : Int) (b : Bool) (hb : decide (1 ≤ n ∧ n ≤ 16) = b) (w : World) :
    Calls Try.prog 25 #[.int .i64 n, .int .i64 1, .int .i64 16] w fun e w' => e = .returned (.bool b) ∧ w = w' := by
  subst hb
  by_cases h1 : 1 ≤ n
  · by_cases h2 : n ≤ 16
    · have d1 : decide (1 ≤ n) = true := decide_eq_true h1
      have d2 : decide (n ≤ 16) = true := decide_eq_true h2
      have H := Lib.hid (decide_eq_true (And.intro h1 h2))
      clear h1 h2
      go_enter Try.func25, Try.ntmps25
      go_wp2_with fail
      go_ret
      exact ⟨by rw [H.out]; rfl, rfl⟩
    · have d1 : decide (1 ≤ n) = true := decide_eq_true h1
      have d2 : decide (n ≤ 16) = false := decide_eq_false h2
      have H := Lib.hid (decide_eq_false (fun h : 1 ≤ n ∧ n ≤ 16 => h2 h.2))
      clear h1 h2
      go_enter Try.func25, Try.ntmps25
      go_wp2_with fail
      go_ret
      exact ⟨by rw [H.out]; rfl, rfl⟩
  · have d1 : decide (1 ≤ n) = false := decide_eq_false h1
    have H := Lib.hid (decide_eq_false (fun h : 1 ≤ n ∧ n ≤ 16 => h1 h.1))
    clear h1
    go_enter Try.func25, Try.ntmps25
    go_wp2_with fail
    go_ret
    exact ⟨by rw [H.out]; rfl, rfl⟩

set_option maxRecDepth 100000 in
set_option maxHeartbeats 1000000 in
theorem mayM_any (R C : Int) (A : Option Addr) (n k : Nat) (w : World) (hn : n ≤ 9223372036854775807) :
    Calls Try.prog 38 #[matV R C (.slice A n k)] w fun e w' => e = .returned (.bool (mayM R C n)) ∧ Below w.heap.size w w' := by
  have hF := (Below.refl w.heap.size w).alloc (Nat.le_refl _) (.cells #[.int .i64 R, .int .i64 C, .slice A n k] 30)
  have HF := Lib.hid hF
  clear hF
  unfold matV
  by_cases hR : 1 ≤ R ∧ R ≤ 16
  · have r1 := Lib.hid (decide_eq_true hR)
    by_cases hC : 1 ≤ C ∧ C ≤ 16
    · have c1 := Lib.hid (decide_eq_true hC)
      have hm := mul_small hR.1 hR.2 hC.1 hC.2
      obtain ⟨q, hq⟩ : ∃ q, q = ((n : Int) == R * C) := ⟨_, rfl⟩
      have H : Hid (mayM R C n = q) := by
        rw [Hid, hq, mayM]
        by_cases e : (n : Int) = R * C
        · rw [beq_iff_eq.2 e]; exact decide_eq_true ⟨hR.1, hR.2, hC.1, hC.2, e⟩
        · rw [beq_eq_false_iff_ne.2 e]; exact decide_eq_false fun h => e h.2.2.2.2
      have hw : IntKind.i64.wrap (R * C) = R * C := IntWalk.i64_in _ (by omega)
      have HQ := Lib.hid hq
      clear hR hC hq
      go_enter Try.func38, Try.ntmps38
      go_wp2_with (first | (go_at_call 46; refine (side_is _ true (by first | exact r1.out | exact c1.out) _).mono ?_; rintro e w' ⟨rfl, rfl⟩))
      go_ret
      exact ⟨by rw [H.out, HQ.out]; rfl, HF.out⟩
    · have c1 := Lib.hid (decide_eq_false hC)
      have H : Hid (mayM R C n = false) := by rw [Hid, mayM]; exact decide_eq_false fun h => hC ⟨h.2.2.1, h.2.2.2.1⟩
      clear hR hC
      go_enter Try.func38, Try.ntmps38
      go_wp2_with (first | (go_at_call 46; refine (side_any _ _).mono ?_; rintro e w' ⟨rfl, rfl⟩; first | rw [r1.out] | rw [c1.out]))
      go_ret
      exact ⟨by rw [H.out]; rfl, HF.out⟩
  · have r1 := Lib.hid (decide_eq_false hR)
    have H : Hid (mayM R C n = false) := by rw [Hid, mayM]; exact decide_eq_false fun h => hR ⟨h.1, h.2.1⟩
    clear hR
    go_enter Try.func38, Try.ntmps38
    go_wp2_with (first | (go_at_call 46; refine (side_is _ false r1.out _).mono ?_; rintro e w' ⟨rfl, rfl⟩))
    go_ret
    exact ⟨by rw [H.out]; rfl, HF.out⟩
end Go.Proofs.Ytibinkppbdeofaa
