/- Letters of a digest: what the page says, plainly; both walks of Hex. -/
import Derived.Test.YtnpngkbcfkolnaaDigH
import Derived.Deep.RegionHeld3
import Derived.Deep.AppendLies
namespace Go.Proofs.Ytnpngkbcfkolnaa
open Go.ChangeShapes Go.WideShapes Go.ChangeAt Go.RowKit Go.Joins
set_option linter.unusedVariables false
set_option linter.unusedSimpArgs false
attribute [local go_sem ↓] Go.wp_at_zero Go.wp_at_succ

def digitsL : ByteArray := ⟨#[48, 49, 50, 51, 52, 53, 54, 55, 56, 57, 97, 98, 99, 100, 101, 102]⟩
/-- A letter's number. -/
def letterN (n : Nat) : Nat := if n < 10 then 48 + n else 87 + n
def hexPair (c : Nat) : List Nat := [letterN (c / 16), letterN (c % 16)]
def someHex (s : ByteArray) (k : Nat) : List Nat := (List.range k).flatMap fun i => hexPair (s.data.toList.getD i 0).toNat
def hexS (s : ByteArray) : ByteArray := strOf8 (someHex s s.size)
theorem someHex_succ (s : ByteArray) (k : Nat) : someHex s (k + 1) = someHex s k ++ hexPair (s.data.toList.getD k 0).toNat := by simp [someHex, List.range_succ]
theorem someHex_length (s : ByteArray) (k : Nat) : (someHex s k).length = 2 * k := by
  induction k with
  | zero => rfl
  | succ k ih => rw [someHex_succ, List.length_append, ih]; simp [hexPair]; omega
theorem digits_get : ∀ n, n < 16 → ∀ h : n < digitsL.size, (digitsL[n]'h).toNat = letterN n := by decide
theorem digits_size : digitsL.size = 16 := by decide
theorem and15 {c : Nat} (h : c < 256) : bits .and .u8 (c : Int) 15 = ((c % 16 : Nat) : Int) := by
  have e := bits_and_k .u8 (a := c) (b := 15) h (by decide)
  rw [show (15 : Nat) = 2 ^ 4 - 1 from rfl, Nat.and_two_pow_sub_one_eq_mod, IntWalk.u8_in _ (by omega)] at e
  exact e
theorem cell_two_new (w : World) (a b : Value) (t : TypeId) : ∀ j u, [a, b][j]? = some u → (w.alloc (.cells #[a, b] t)).cell? ((⟨w.heap.size, 0, none⟩ : Addr).add j) = some u := by
  intro j u hj
  rw [Go.WideShapes.add_plain, Nat.zero_add, cell_of_row _ _ _ _ _ _ (heap_alloc_new w _)]
  simpa using hj
theorem cell_two_drew (w : World) (a b : Value) (t : TypeId) : ∀ j u, [a, b][j]? = some u → (w.alloc (.cells #[a, b] t)).drew.cell? ((⟨w.heap.size, 0, none⟩ : Addr).add j) = some u := cell_two_new w a b t
theorem append_drew' {w wr w1 : World} {o : Obj} {e : TypeId} {size n : Nat} {v : Value} {xs : List Value} (hwr : Below w.heap.size w wr) (hown : wr.ownsRow w.heap.size e size v n xs) (hgrow : (wr.alloc o).drew.grownBy w1 v.ownBlock) : Below w.heap.size w w1 :=
  ((hwr.alloc hwr.size o).trans (show Below w.heap.size _ (wr.alloc o).drew from ⟨rfl, rfl, rfl, Nat.le_refl _, fun _ _ => rfl⟩)).grown hgrow (by have := hwr.size; show w.heap.size ≤ (wr.alloc o).heap.size; simp; omega) (fun k hk => (hown.lt k hk).1)

/-- An owned row of nothing, made a text. -/
theorem own_none {w : World} {base : Nat} {v : Value} (h : w.ownsRow base 5 1 v ([] : List Nat).length (([] : List Nat).map byV)) : ∃ p cap, v = .slice p 0 cap ∧ (convert 26 9 (.slice p 0 cap)).run Try.prog w = .ok (.string ⟨#[]⟩) w := by
  rcases h.2 with ⟨rfl, _⟩ | ⟨g, cap, cur, rfl, _⟩
  · refine ⟨none, 0, rfl, ?_⟩
    rw [run_convert_bytes_string w _ _ 5 _ _ _ Try.underlying26 Try.underlying5 Try.underlying9]
    kernel_rfl
  · refine ⟨_, cap, rfl, ?_⟩
    exact convert_bytes (P := Try.prog) (w := w) (b := g) (off := 0) (cap := cap) (ns := []) Try.underlying26 Try.underlying5 Try.underlying9 (fun i hi => absurd hi (Nat.not_lt_zero _))

set_option maxRecDepth 100000 in
set_option maxHeartbeats 2000000 in
theorem refHex_any (s : ByteArray) (w : World) (hs : s.size ≤ 1000000) :
    Calls Try.prog 21 #[.string s] w fun e w' => e = .returned (.string (hexS s)) ∧ Below w.heap.size w w' := by
  obtain ⟨i0, hi, hz0, hz1, hz2⟩ := info_parts infoU8
  go_enter Try.func21, Try.ntmps21
  go_wp2_with fail
  go_loopw [4, 5] (fun v i wr => ∃ k : Nat, i = .int .i64 k ∧ k ≤ s.size ∧ wr.ownsRow w.heap.size 5 1 v (someHex s k).length ((someHex s k).map byV) ∧ Below w.heap.size w wr) (fun _ i _ => s.size - (intOf i).toNat)
  case atStart => exact ⟨0, rfl, by omega, World.ownsRow_nil _ _ _ _, Below.refl _ _⟩
  case round =>
    obtain ⟨k, rfl, hk, hown, hwr⟩ := hrel
    by_cases hlt : k < s.size
    · have hll := someHex_length s k
      have hlen : (someHex s k).length ≤ 2000000 := by omega
      have hsc := someHex_succ s k
      have hg : (s.data.toList.getD k 0) = s[k] := by rw [List.getD, List.getElem?_eq_getElem (by simpa using hlt)]; rfl
      rw [hg] at hsc
      obtain ⟨c, hc⟩ : ∃ c : Nat, ∀ h : k < s.size, (s[k]'h).toNat = c := ⟨(s[k]'hlt).toNat, fun _ => rfl⟩
      have hc2 : c < 256 := by rw [← hc hlt]; exact UInt8.toNat_lt _
      rw [hc hlt] at hsc
      have HSC := Lib.hid hsc
      have a1 := and15 hc2
      obtain ⟨q, hq⟩ : ∃ q : Nat, c / 16 = q := ⟨_, rfl⟩
      obtain ⟨r, hr⟩ : ∃ q : Nat, c % 16 = q := ⟨_, rfl⟩
      have hq1 : q < 16 := by omega
      have hr1 : r < 16 := by omega
      have e1 : (c : Int) / 16 = (q : Int) := by omega
      rw [hr] at a1
      have hpair : hexPair c = [letterN q, letterN r] := by rw [hexPair, hq, hr]
      have i0' : (0 : Int) ≤ (k : Int) := by omega
      have i1' : (k : Int) < (s.size : Int) := by omega
      have j0 : (0 : Int) ≤ (q : Int) := by omega
      have j1 : (q : Int) < 16 := by omega
      have j2 : (0 : Int) ≤ (r : Int) := by omega
      have j3 : (r : Int) < 16 := by omega
      obtain ⟨x, hx⟩ : ∃ x, x = letterN q := ⟨_, rfl⟩
      obtain ⟨y, hy⟩ : ∃ x, x = letterN r := ⟨_, rfl⟩
      have dq : ∀ h : q < (⟨#[48, 49, 50, 51, 52, 53, 54, 55, 56, 57, 97, 98, 99, 100, 101, 102]⟩ : ByteArray).size, ((⟨#[48, 49, 50, 51, 52, 53, 54, 55, 56, 57, 97, 98, 99, 100, 101, 102]⟩ : ByteArray)[q]'h).toNat = x := fun h => by rw [hx]; exact digits_get q hq1 h
      have dr : ∀ h : r < (⟨#[48, 49, 50, 51, 52, 53, 54, 55, 56, 57, 97, 98, 99, 100, 101, 102]⟩ : ByteArray).size, ((⟨#[48, 49, 50, 51, 52, 53, 54, 55, 56, 57, 97, 98, 99, 100, 101, 102]⟩ : ByteArray)[r]'h).toNat = y := fun h => by rw [hy]; exact digits_get r hr1 h
      rw [← hx, ← hy] at hpair
      have HP := Lib.hid hpair
      clear hll hsc hg hq hr hpair hx hy
      go_wp2_with fail
      go_region_held3 (fun w' => 0 ≤ w'.heap.size) (exact Nat.zero_le _)
        ((refine step_append_lies _ (by rfl) _ _ _ (by rfl) w.heap.size 5 i0 _ 1 1 Try.underlying26 hi hz0 hz1 hz2 rfl (by decide) _ _ _ (by rfl) ((hown.alloc _).drew) ⟨wr.heap.size, 0, none⟩ 2 2 [.int .u8 (x : Int), .int .u8 (y : Int)] (by rfl) (by rfl) (cell_two_drew _ _ _ _) (by simp [Value.oneCell']) (by omega) (by unfold maxLen; omega) (by omega) (by have := hwr.size; simp; omega) (wr.heap.size + 1) (by simp) ?_; intro gg cap w1 hown' hgrow hat hltg))
      all_goals
        have hbx := append_drew' hwr hown hgrow
        clear hown hgrow hwr hat hltg
        go_wp2_with fail
        go_roundw
        case rel =>
          refine ⟨k + 1, by go_num, by omega, ?_, hbx⟩
          have e : [Value.int .u8 (x : Int), .int .u8 (y : Int)] = (hexPair c).map byV := by rw [HP.out]; rfl
          rw [e, ← List.map_append, ← HSC.out] at hown'
          have e2 : (someHex s k).length + 2 = (someHex s (k + 1)).length := by rw [HSC.out, List.length_append, HP.out]; rfl
          rw [← e2]
          exact hown'
        case measure => simp [intOf]; omega
    · have hke : k = s.size := by omega
      rw [hke] at hown
      by_cases h0 : 0 < s.size
      · obtain ⟨gb, cap, rfl, hcells⟩ := own_bytes hown (by rw [someHex_length]; omega)
        have hcv := convert_bytes (P := Try.prog) (w := wr) (b := gb) (off := 0) (cap := cap) (ns := someHex s s.size) Try.underlying26 Try.underlying5 Try.underlying9 hcells
        clear hke hown hcells
        go_wp2_with fail
        go_ret
        exact ⟨rfl, hwr⟩
      · have hs0 : s.size = 0 := by omega
        have hx0 : someHex s s.size = [] := by rw [hs0]; rfl
        have hh : hexS s = ⟨#[]⟩ := by rw [hexS, hx0]; rfl
        rw [hx0] at hown
        have HH := Lib.hid hh
        obtain ⟨pv, cap, hv, hcv⟩ := own_none hown
        subst hv
        clear hke hown hx0 hh hs0
        go_wp2_with fail
        go_ret
        exact ⟨by rw [HH.out]; rfl, hwr⟩
end Go.Proofs.Ytnpngkbcfkolnaa
