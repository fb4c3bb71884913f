/- field.Log: a range over the powers of 2, a function that is ranged over; what it comes to at every byte. -/
import Derived.Test.YtjnalbhfinejgaaField
import Derived.Test.YtjnalbhfinejgaaClose
import Derived.RangeFuncFrom
import Derived.RangeFuncMany
import Derived.RangeFuncNested
import Derived.RangeFuncBound
import Derived.RangeFuncCalls
import Derived.RangeFuncLeaves
import Derived.Shelf.Abstract
import Derived.Shelf.RegionOpen
import Derived.WalkKit
import Derived.OwnWalkIn
import Derived.TacticsInMore
import Derived.LoopNIn
import Derived.LoopIn
namespace Go.Proofs.Ytjnalbhfinejgaa
open Go.RowKit Go.Shelf
set_option linter.unusedVariables false
set_option linter.unusedSimpArgs false
attribute [local go_sem] Oper.semAt_some

theorem cell_new_l (W : World) (v : Value) (t : TypeId) : (W.alloc (.cells #[v] t)).cell? ⟨W.heap.size, 0, none⟩ = some v ∧ (W.alloc (.cells #[v] t)).frozen? ⟨W.heap.size, 0, none⟩ = false :=
  ⟨by simp [go_sem], by simp [go_sem]⟩
theorem cell_alloc_l {W : World} {a : Addr} {v : Value} (o : Obj) (h : W.cell? a = some v) : (W.alloc o).cell? a = some v := cell_kept h (World.grownBy_alloc W o none) (fun r e => by cases e)
theorem frozen_alloc_l {W : World} {a : Addr} {v : Value} (o : Obj) (h : W.cell? a = some v) (hf : W.frozen? a = false) : (W.alloc o).frozen? a = false := (frozen_kept h (World.grownBy_alloc W o none) (fun r e => by cases e)).trans hf

abbrev encPow (n : Nat) : Array Value := #[.int .i64 (n : Int), .int .u8 ((Gf.up n 1 : Nat) : Int)]

set_option maxRecDepth 100000 in
set_option maxHeartbeats 1000000 in
theorem powers1_stops (w : World) :
    SeqStopsK Fence.wide 9 Try.prog 26 #[] encPow KeepsWalks (fun xs => xs = List.range 255) (fun pre => ∃ k, k ≤ 255 ∧ pre = List.range k) 255 w := fun l J Jx W _ _ _ hY h0 => by
  refine callsIn_of_wp Try.func26 rfl trivial ?_ rfl
  simp only [Try.ntmps26, List.size_toArray, List.length_cons, List.length_nil, Nat.reduceAdd, Nat.reduceSub, Array.replicate_succ, Array.replicate_zero, List.push_toArray, List.append_toArray, List.nil_append, List.cons_append]
  gi_wp2
  gi_loopw [2, 4] (fun x n wr => ∃ k : Nat, n = .int .i64 k ∧ x = .int .u8 ((Gf.up k 1 : Nat) : Int) ∧ k ≤ 255 ∧ J (List.range k) wr) (fun _ n _ => (255 - intOf n).toNat)
  case atStart => exact ⟨0, rfl, rfl, by omega, h0⟩
  case round =>
    obtain ⟨k, rfl, rfl, hk, hJ⟩ := hrel
    by_cases h5 : k < 255
    · obtain ⟨fn, tmps, assign, body, hy, hR⟩ := hY (List.range k) k wr hJ (by simpa using h5)
      dsimp only [encPow] at hy
      have hu := Gf.up_lt k 1 (by decide)
      gi_wp2
      refine hR.mono ?_
      rintro e W3 (⟨rfl, hJ3, hk3⟩ | ⟨rfl, hJx3⟩)
      · gi_wp2_with (refine ⟨trivial, ?_⟩; gi_at_call 10; refine (callsIn_wide.2 (fieldMul_any _ _ _ (by omega) (by omega) (by omega) (by omega))).mono ?_; rintro e w' ⟨rfl, rfl⟩)
        go_roundw
        case rel => exact ⟨k + 1, by go_num, by rw [show (2 : Int) = ((2 : Nat) : Int) from rfl, gm_nat, Gf.mul_two _ hu, ← Gf.up_dbl]; rfl, by omega, by rw [List.range_succ]; exact hJ3⟩
        case measure => simp [intOf]; omega
      · gi_wp2
        refine bodyPost_ret (results_none rfl _ _ _) rfl ?_
        exact ⟨⟨_, rfl⟩, .inr ⟨List.range (k + 1), ⟨_, h5, rfl⟩, by rw [List.range_succ]; exact hJx3⟩⟩
    · obtain rfl : k = 255 := by omega
      gi_wp2
      go_end0
      exact ⟨⟨_, rfl⟩, .inl ⟨_, rfl, hJ⟩⟩

theorem log_all {a : Nat} (ha : a < 256) (h : ∀ y ∈ List.range 255, Gf.up y 1 ≠ a) : a = 0 := by
  by_cases h0 : a = 0
  · exact h0
  · exact absurd (Gf.up_log ha h0) (h _ (List.mem_range.2 (Gf.log_lt ha h0)))
theorem log_hit {a k x : Nat} {p : List Nat} (hk : p ++ [x] = List.range k) (hl : k ≤ 255) (hp : ∀ y ∈ p, Gf.up y 1 ≠ a) (hx : Gf.up x 1 = a) : a ≠ 0 ∧ Gf.log a = x := by
  have hlen := congrArg List.length hk
  simp only [List.length_append, List.length_cons, List.length_nil, List.length_range] at hlen
  obtain ⟨j, rfl⟩ : ∃ j, k = j + 1 := ⟨k - 1, by omega⟩
  rw [List.range_succ] at hk
  obtain ⟨h1, h2⟩ := List.append_inj hk (by simp; omega)
  simp only [List.cons.injEq, and_true] at h2
  subst h2
  refine ⟨by rw [← hx]; exact Gf.up_ne_zero _, by rw [← hx]; exact Gf.log_up (by omega)⟩

set_option maxRecDepth 100000 in
set_option maxHeartbeats 400000 in
theorem powers_any (w : World) :
    Calls Try.prog 24 #[] w fun e w' => e = .returned (.func (.func 26) #[] #[]) ∧ w = w' := by
  go_enter Try.func24, Try.ntmps24
  go_wp2
  go_ret
  exact ⟨rfl, rfl⟩

/-- What Log comes to. -/
def LogOut (a : Nat) (e : Ending) : Prop := e = .returned (.tuple #[.int .i64 (if a = 0 then 0 else ((Gf.log a : Nat) : Int)), .int .i64 (if a = 0 then 1 else 0)])
theorem logOut_none {a : Nat} (h : a = 0) : LogOut a (.returned (.tuple #[.int .i64 0, .int .i64 1])) := by simp [LogOut, h]
theorem logOut_hit {a x : Nat} (h : a ≠ 0 ∧ Gf.log a = x) : LogOut a (.returned (.tuple #[.int .i64 (x : Int), .int .i64 0])) := by simp [LogOut, h.1, h.2]

set_option maxRecDepth 100000 in
set_option maxHeartbeats 2000000 in
theorem fieldLog_in (a : Nat) (ha : a < 256) (w : World) :
    CallsIn Fence.wide 10 Try.prog 20 #[.int .u8 (a : Int)] w fun e W' =>
      LogOut a e ∧ Below w.heap.size w W' := by
  refine callsIn_of_wp_marks Try.func20 rfl trivial ?_ rfl
  simp only [Try.ntmps20, List.size_toArray, List.length_cons, List.length_nil, Nat.reduceAdd, Nat.reduceSub, Array.replicate_succ, Array.replicate_zero, List.push_toArray, List.append_toArray, List.nil_append, List.cons_append]
  gi_wp2_with (refine ⟨trivial, ?_⟩; gi_at_call 24; refine (callsIn_wide.2 (powers_any _)).mono ?_; rintro e w' ⟨rfl, rfl⟩)
  have c0 := cell_new_l w (.int .u8 (a : Int)) 5
  have c1 := cell_new_l (w.alloc (.cells #[.int .u8 (a : Int)] 5)) (.int .i64 0) 3
  have c2 := cell_new_l ((w.alloc (.cells #[.int .u8 (a : Int)] 5)).alloc (.cells #[.int .i64 0] 3)) (.int .i64 0) 29
  simp only [World.size_alloc] at c1 c2
  have hB0 : Below w.heap.size w (((w.alloc (.cells #[.int .u8 (a : Int)] 5)).alloc (.cells #[.int .i64 0] 3)).alloc (.cells #[.int .i64 0] 29)) := (((Below.refl _ w).alloc (Nat.le_refl _) _).alloc (by simp) _).alloc (by simp; omega) _
  refine wpIn_rangeFunc_ownF (encs := encPow) rfl (by omega) (gf := 26) (lb := #[]) rfl trivial (enters_of Try.func26 (by kernel_rfl) rfl)
    (powers1_stops _) walksK_t walksK_b (Below.refl _ _) (fun _ => rfl)
    (fun pre W => ((∀ y ∈ pre, Gf.up y 1 ≠ a) ∧ W.cell? ⟨w.heap.size, 0, none⟩ = some (.int .u8 (a : Int)) ∧ W.cell? ⟨w.heap.size + 1, 0, none⟩ = some (.int .i64 0) ∧ W.frozen? ⟨w.heap.size + 1, 0, none⟩ = false ∧ W.cell? ⟨w.heap.size + 1 + 1, 0, none⟩ = some (.int .i64 0) ∧ W.frozen? ⟨w.heap.size + 1 + 1, 0, none⟩ = false) ∧ Below w.heap.size w W)
    (fun c pre W => (c = .ret ∧ (∃ p x, pre = p ++ [x] ∧ (∀ y ∈ p, Gf.up y 1 ≠ a) ∧ Gf.up x 1 = a ∧ W.cell? ⟨w.heap.size + 1, 0, none⟩ = some (.int .i64 (x : Int))) ∧ W.cell? ⟨w.heap.size + 1 + 1, 0, none⟩ = some (.int .i64 0)) ∧ Below w.heap.size w W)
    (OwnFrom.and (Own.from (fun s A B row hs hg hr => ⟨hs.1, cell_kept hs.2.1 hg hr, cell_kept hs.2.2.1 hg hr, (frozen_kept hs.2.2.1 hg hr).trans hs.2.2.2.1, cell_kept hs.2.2.2.2.1 hg hr, (frozen_kept hs.2.2.2.2.1 hg hr).trans hs.2.2.2.2.2⟩) _) (ownFrom_below (Nat.le_refl _) (by simp; omega)))
    (fun c => OwnFrom.and (Own.from (fun s A B row hs hg hr => by obtain ⟨e1, ⟨p, x, e2, e3, e4, e5⟩, e6⟩ := hs; exact ⟨e1, ⟨p, x, e2, e3, e4, cell_kept e5 hg hr⟩, cell_kept e6 hg hr⟩) _) (ownFrom_below (Nat.le_refl _) (by simp; omega)))
    ⟨⟨by simp, cell_alloc_l _ (cell_alloc_l _ c0.1), cell_alloc_l _ c1.1, frozen_alloc_l _ c1.1 c1.2, c2.1, c2.2⟩, hB0⟩
    (fun x => { tmps := #[.int .u8 (a : Int), .pointer (some ⟨w.heap.size, 0, none⟩), .pointer (some ⟨w.heap.size + 1, 0, none⟩), .pointer (some ⟨w.heap.size + 1 + 1, 0, none⟩), .int .i64 (x : Int), .int .u8 ((Gf.up x 1 : Nat) : Int), .func (.func 26) #[] #[], .int .i64 (x : Int), .int .u8 ((Gf.up x 1 : Nat) : Int), undef, undef, undef, undef], defers := [] }) ?assign ?body ?done ?stop
  case assign =>
    intro l x W K hK
    gi_wp2
    exact hK
  case body =>
    rintro l pre x W ⟨⟨hp, hca, hcr, hfr, hce, hfe⟩, hB⟩ _
    by_cases hx : Gf.up x 1 = a
    · have hx1 : (((Gf.up x 1 : Nat) : Int) == (a : Int)) = true := by rw [beq_iff_eq]; omega
      have HX := Lib.hid hx
      clear hx
      gi_wp2
      refine ⟨(KeepsOthers.setCell _ _ _).trans (KeepsOthers.setCell _ _ _), ⟨rfl, ⟨pre, x, rfl, hp, HX.out, ?_⟩, ?_⟩, (hB.setCell (p := ⟨w.heap.size + 1, 0, none⟩) (by simp) _).setCell (p := ⟨w.heap.size + 1 + 1, 0, none⟩) (by simp; omega) _⟩
      · rw [World.cell?_setCell_other _ _ _ _ (by simp)]
        exact World.cell?_setCell_same' _ _ _ (by rw [hcr]; rfl)
      · exact World.cell?_setCell_same' _ _ _ (by rw [World.cell?_setCell_other _ _ _ _ (by simp), hce]; rfl)
    · have hx1 : (((Gf.up x 1 : Nat) : Int) == (a : Int)) = false := by rw [beq_eq_false_iff_ne]; omega
      have HX := Lib.hid hx
      clear hx
      gi_wp2
      exact ⟨KeepsOthers.refl _, KeepsWalks.refl _, ⟨fun y hy => (List.mem_append.1 hy).elim (hp y) (fun e e' => by simp at e; subst e; exact HX.out e'), hca, hcr, hfr, hce, hfe⟩, hB⟩
  case done =>
    rintro D ys W hD rfl ⟨⟨hne, hca, hcr, hfr, hce, hfe⟩, hB⟩ hK
    have h0 := log_all ha hne
    have H0 := Lib.hid h0
    clear h0 hne
    gi_wp2
    have hK1 := ((KeepsOthers.setCell W ⟨w.heap.size + 1, 0, none⟩ (.int .i64 0)).trans (KeepsOthers.setCell _ ⟨w.heap.size + 1 + 1, 0, none⟩ (.int .i64 1))).same D _ hK rfl
    refine ⟨by simp, .inl ⟨_, _, rfl, run_takeDeferred hK1, ?_⟩⟩
    have e1 : ((W.setCell ⟨w.heap.size + 1, 0, none⟩ (.int .i64 0)).setCell ⟨w.heap.size + 1 + 1, 0, none⟩ (.int .i64 1)).cell? ⟨w.heap.size + 1, 0, none⟩ = some (.int .i64 0) := by
      rw [World.cell?_setCell_other _ _ _ _ (by simp)]
      exact World.cell?_setCell_same' _ _ _ (by rw [hcr]; rfl)
    have e2 : ((W.setCell ⟨w.heap.size + 1, 0, none⟩ (.int .i64 0)).setCell ⟨w.heap.size + 1 + 1, 0, none⟩ (.int .i64 1)).cell? ⟨w.heap.size + 1 + 1, 0, none⟩ = some (.int .i64 1) :=
      World.cell?_setCell_same' _ _ _ (by rw [World.cell?_setCell_other _ _ _ _ (by simp), hce]; rfl)
    have hc1 := cell_kept e1 (grownBy_putObj' _ D (.deferred none)) (fun r e => by cases e; exact ⟨_, hK1, rfl⟩)
    have hc2 := cell_kept e2 (grownBy_putObj' _ D (.deferred none)) (fun r e => by cases e; exact ⟨_, hK1, rfl⟩)
    refine ⟨.tuple #[.int .i64 0, .int .i64 1], ?_, logOut_none H0.out, ((hB.setCell (p := ⟨w.heap.size + 1, 0, none⟩) (by simp) _).setCell (p := ⟨w.heap.size + 1 + 1, 0, none⟩) (by simp; omega) _).trans (belowK_b (w := w) (Nat.le_refl _) _ D _ _ (by simp at hD; omega) hK1 rfl rfl)⟩
    simp [results, Try.f20, go_sem, hc1, hc2]
  case stop =>
    rintro D c pre W hD ⟨k, hk, rfl⟩ ⟨⟨rfl, ⟨p, x, hpx, hpne, hxa, hcr⟩, hce⟩, hB⟩ hK
    have hh := log_hit hpx.symm hk hpne hxa
    have HH := Lib.hid hh
    clear hh hpx hpne hxa
    gi_wp2
    refine ⟨by simp, .inl ⟨_, _, rfl, run_takeDeferred hK, ?_⟩⟩
    have hc1 := cell_kept hcr (grownBy_putObj' _ D (.deferred none)) (fun r e => by cases e; exact ⟨_, hK, rfl⟩)
    have hc2 := cell_kept hce (grownBy_putObj' _ D (.deferred none)) (fun r e => by cases e; exact ⟨_, hK, rfl⟩)
    refine ⟨.tuple #[.int .i64 (x : Int), .int .i64 0], ?_, logOut_hit HH.out, hB.trans (belowK_b (w := w) (Nat.le_refl _) W D _ _ (by simp at hD; omega) hK rfl rfl)⟩
    simp [results, Try.f20, go_sem, hc1, hc2]

theorem fieldLog_yes (a : Int) (w : World) (h0 : 1 ≤ a) (h1 : a ≤ 255) :
    Calls Try.prog 20 #[.int .u8 a] w fun e w' => e = .returned (.tuple #[.int .i64 ((Gf.log a.toNat : Nat) : Int), .int .i64 0]) ∧ Below w.heap.size w w' := by
  obtain ⟨a, rfl⟩ := Int.eq_ofNat_of_zero_le (show 0 ≤ a by omega)
  refine (callsIn_wide.1 (fieldLog_in a (by omega) w)).mono fun e w' ⟨he, hb⟩ => ⟨?_, hb⟩
  rw [LogOut, if_neg (by omega), if_neg (by omega)] at he
  simpa using he
theorem fieldLog_no (w : World) :
    Calls Try.prog 20 #[.int .u8 0] w fun e w' => e = .returned (.tuple #[.int .i64 0, .int .i64 1]) ∧ Below w.heap.size w w' :=
  (callsIn_wide.1 (fieldLog_in 0 (by omega) w)).mono fun e w' ⟨he, hb⟩ => ⟨by simpa [LogOut] using he, hb⟩
end Go.Proofs.Ytjnalbhfinejgaa
