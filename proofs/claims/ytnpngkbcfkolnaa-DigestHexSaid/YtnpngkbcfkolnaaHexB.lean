/- Letters of a digest: the program's Hex, walked. -/
import Derived.Test.YtnpngkbcfkolnaaHexA
namespace Go.Proofs.Ytnpngkbcfkolnaa
open Go.ChangeShapes Go.WideShapes Go.ChangeAt Go.RowKit Go.Joins
set_option linter.unusedVariables false
set_option linter.unusedSimpArgs false
attribute [local go_sem ↓] Go.wp_at_zero Go.wp_at_succ

set_option maxRecDepth 100000 in
set_option maxHeartbeats 400000 in
theorem hex_no (s : ByteArray) (w : World) (h32 : ¬ s.size = 32) (hs : s.size ≤ 1000000) :
    Calls Try.prog 22 #[.string s] w fun e w' => e = .returned (.tuple #[.string ⟨#[]⟩, .int .i64 1]) ∧ w = w' := by
  have hne : ((s.size : Int) == 32) = false := beq_eq_false_iff_ne.2 (by omega)
  go_enter Try.func22, Try.ntmps22
  go_wp2_with fail
  go_ret2
  exact ⟨rfl, rfl⟩

set_option maxRecDepth 100000 in
set_option maxHeartbeats 2000000 in
theorem hex_yes (s : ByteArray) (w : World) (h32 : s.size = 32) :
    Calls Try.prog 22 #[.string s] w fun e w' => e = .returned (.tuple #[.string (hexS s), .int .i64 0]) ∧ Below w.heap.size w w' := by
  obtain ⟨i0, hi, hz0, hz1, hz2⟩ := info_parts infoU8
  have hs : s.size ≤ 1000000 := by omega
  have hs0' : 32 ≤ s.size := by omega
  have hle : s.size ≤ 32 := by omega
  have hne1 : ((s.size : Int) != 32) = false := by rw [h32]; rfl
  have hne2 : ((s.size : Int) == 32) = true := by rw [h32]; rfl
  clear h32
  go_enter Try.func22, Try.ntmps22
  go_wp2_with fail
  go_loopw [4, 11] (fun v i wr => ∃ k : Nat, i = .int .i64 k ∧ k ≤ s.size ∧ wr.ownsRow w.heap.size 5 1 v (someHex s k).length ((someHex s k).map byV) ∧ Below w.heap.size w wr) (fun _ i _ => s.size - (intOf i).toNat)
  case atStart => exact ⟨0, rfl, by omega, World.ownsRow_nil _ _ _ _, Below.refl _ _⟩
  case round =>
    obtain ⟨k, rfl, hk, hown, hwr⟩ := hrel
    by_cases hlt : k < s.size
    · have hll := someHex_length s k
      have hlen : (someHex s k).length ≤ 2000000 := by omega
      have hsc := someHex_succ s k
      have hg : (s.data.toList.getD k 0) = s[k] := by rw [List.getD, List.getElem?_eq_getElem (by simpa using hlt)]; rfl
      rw [hg] at hsc
      obtain ⟨c, hc⟩ : ∃ c : Nat, ∀ h : k < s.size, (s[k]'h).toNat = c := ⟨(s[k]'hlt).toNat, fun _ => rfl⟩
      have hc2 : c < 256 := by rw [← hc hlt]; exact UInt8.toNat_lt _
      rw [hc hlt] at hsc
      have HSC := Lib.hid hsc
      have a1 := and15 hc2
      obtain ⟨q, hq⟩ : ∃ q : Nat, c / 16 = q := ⟨_, rfl⟩
      obtain ⟨r, hr⟩ : ∃ q : Nat, c % 16 = q := ⟨_, rfl⟩
      have hq1 : q < 16 := by omega
      have hr1 : r < 16 := by omega
      have e1 : (c : Int) / 16 = (q : Int) := by omega
      rw [hr] at a1
      have hpair : hexPair c = [letterN q, letterN r] := by rw [hexPair, hq, hr]
      have i0' : (0 : Int) ≤ (k : Int) := by omega
      have i1' : (k : Int) < (s.size : Int) := by omega
      have j0 : (0 : Int) ≤ (q : Int) := by omega
      have j1 : (q : Int) < 16 := by omega
      have j2 : (0 : Int) ≤ (r : Int) := by omega
      have j3 : (r : Int) < 16 := by omega
      obtain ⟨x, hx⟩ : ∃ x, x = letterN q := ⟨_, rfl⟩
      obtain ⟨y, hy⟩ : ∃ x, x = letterN r := ⟨_, rfl⟩
      have dq : ∀ h : q < (⟨#[48, 49, 50, 51, 52, 53, 54, 55, 56, 57, 97, 98, 99, 100, 101, 102]⟩ : ByteArray).size, ((⟨#[48, 49, 50, 51, 52, 53, 54, 55, 56, 57, 97, 98, 99, 100, 101, 102]⟩ : ByteArray)[q]'h).toNat = x := fun h => by rw [hx]; exact digits_get q hq1 h
      have dr : ∀ h : r < (⟨#[48, 49, 50, 51, 52, 53, 54, 55, 56, 57, 97, 98, 99, 100, 101, 102]⟩ : ByteArray).size, ((⟨#[48, 49, 50, 51, 52, 53, 54, 55, 56, 57, 97, 98, 99, 100, 101, 102]⟩ : ByteArray)[r]'h).toNat = y := fun h => by rw [hy]; exact digits_get r hr1 h
      rw [← hx, ← hy] at hpair
      have HP := Lib.hid hpair
      clear hll hsc hg hq hr hpair hx hy
      go_wp2_with fail
      go_region_held3 (fun w' => 0 ≤ w'.heap.size) (exact Nat.zero_le _)
        ((refine step_append_lies _ (by rfl) _ _ _ (by rfl) w.heap.size 5 i0 _ 1 1 Try.underlying26 hi hz0 hz1 hz2 rfl (by decide) _ _ _ (by rfl) ((hown.alloc _).drew) ⟨wr.heap.size, 0, none⟩ 2 2 [.int .u8 (x : Int), .int .u8 (y : Int)] (by rfl) (by rfl) (cell_two_drew _ _ _ _) (by simp [Value.oneCell']) (by omega) (by unfold maxLen; omega) (by omega) (by have := hwr.size; simp; omega) (wr.heap.size + 1) (by simp) ?_; intro gg cap w1 hown' hgrow hat hltg))
      all_goals
        have hbx := append_drew' hwr hown hgrow
        clear hown hgrow hwr hat hltg
        go_wp2_with fail
        go_roundw
        case rel =>
          refine ⟨k + 1, by go_num, by omega, ?_, hbx⟩
          have e : [Value.int .u8 (x : Int), .int .u8 (y : Int)] = (hexPair c).map byV := by rw [HP.out]; rfl
          rw [e, ← List.map_append, ← HSC.out] at hown'
          have e2 : (someHex s k).length + 2 = (someHex s (k + 1)).length := by rw [HSC.out, List.length_append, HP.out]; rfl
          rw [← e2]
          exact hown'
        case measure => simp [intOf]; omega
    · have hke : k = s.size := by omega
      rw [hke] at hown
      obtain ⟨gb, cap, rfl, hcells⟩ := own_bytes hown (by rw [someHex_length]; omega)
      have hcv := convert_bytes (P := Try.prog) (w := wr) (b := gb) (off := 0) (cap := cap) (ns := someHex s s.size) Try.underlying26 Try.underlying5 Try.underlying9 hcells
      clear hke hown hcells
      go_wp2_with fail
      go_ret2
      exact ⟨rfl, hwr⟩
end Go.Proofs.Ytnpngkbcfkolnaa
