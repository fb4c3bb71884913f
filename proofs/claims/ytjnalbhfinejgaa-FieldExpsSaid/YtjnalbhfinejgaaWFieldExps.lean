/- FieldExps, walked. -/
import Derived.Test.YtjnalbhfinejgaaField
import Derived.Test.YtjnalbhfinejgaaFieldLog
import Derived.Test.YtjnalbhfinejgaaAsk1
import Derived.BigQuiet
namespace Go.Proofs.Ytjnalbhfinejgaa
open Go.ChangeShapes Go.WideShapes Go.ChangeAt Go.RowKit Go.Joins
set_option linter.unusedVariables false
set_option linter.unusedSimpArgs false

/-- The block of bools that the call makes. -/
def seen0 : Array Value := Array.replicate 256 (.bool false)
theorem seen0_get {i : Nat} (h : i < 256) : seen0[i]? = some (.bool false) := by simp [seen0, h]
/-- Which numbers have been reached behind n steps. -/
def seenB (n i : Nat) : Bool := (i != 0) && decide (Gf.log i < n)
theorem seenB_zero (i : Nat) : seenB 0 i = false := by simp [seenB]
theorem seenB_at {n : Nat} (h : n < 255) : seenB n (Gf.up n 1) = false := by simp [seenB, Gf.log_up h]
theorem seenB_next {n i : Nat} (h : n < 255) (hi : i < 256) : seenB (n + 1) i = if i = Gf.up n 1 then true else seenB n i := by
  split
  · rename_i e; subst e
    simp [seenB, Gf.log_up h, Gf.up_ne_zero]
  · rename_i e
    by_cases h0 : i = 0
    · simp [seenB, h0]
    · have : Gf.log i ≠ n := fun e' => e (by rw [← e', Gf.up_log hi h0])
      simp only [seenB]
      congr 1
      simp only [decide_eq_decide]
      omega
def SeenAt (w : World) (B n : Nat) : Prop := ∀ i, i < 256 → w.cell? ⟨B, i, none⟩ = some (.bool (seenB n i)) ∧ w.frozen? ⟨B, i, none⟩ = false
theorem seenAt_new (w : World) (T : TypeId) : SeenAt (w.alloc (.cells seen0 T)) w.heap.size 0 := by
  intro i hi
  rw [seenB_zero]
  have h := World.alloc_heap_new w (.cells seen0 T)
  constructor
  · unfold World.cell?; rw [h]; exact seen0_get hi
  · unfold World.frozen?; rw [h]; simp
theorem seenAt_next {w : World} {B n : Nat} (h : SeenAt w B n) (hn : n < 255) : SeenAt (w.setCell ⟨B, Gf.up n 1, none⟩ (.bool true)) B (n + 1) := by
  intro i hi
  have hu := Gf.up_lt n 1 (by decide)
  rw [seenB_next hn hi]
  refine ⟨?_, by rw [World.frozen?_setCell]; exact (h i hi).2⟩
  by_cases e : i = Gf.up n 1
  · rw [if_pos e]; subst e
    exact World.cell?_setCell_same' _ _ _ (by rw [(h _ hu).1]; rfl)
  · rw [if_neg e, World.cell?_setCell_other _ _ _ _ (by simp [e])]
    exact (h i hi).1
theorem seenAt_below {w w' : World} {B n : Nat} (h : SeenAt w B n) (hb : Below w.heap.size w w') : SeenAt w' B n := fun i hi => by
  have hlt := cell_block (h i hi).1
  exact ⟨by rw [hb.cell (p := ⟨B, i, none⟩) hlt]; exact (h i hi).1, by rw [hb.frozen (p := ⟨B, i, none⟩) hlt]; exact (h i hi).2⟩

theorem hmk_seen : ∀ w, (Instr.makeSlice 37 (.int .i64 256) (.int .i64 256)).run Try.prog w = .ok (.slice (some ⟨w.heap.size, 0, none⟩) 256 256) (w.alloc (.cells seen0 4)) := fun _ => by kernel_rfl

set_option maxRecDepth 100000 in
set_option maxHeartbeats 1000000 in
theorem fieldExps_walk (w : World) (vB vN : Value) (zs : List Int) (hN : NumsIn w vN zs) :
    Calls Try.prog 7 #[.agg #[vB, vN]] w fun e w' => e = .returned (.bool true) ∧ Below w.heap.size w w' := by
  obtain ⟨q, capN, rfl, hT⟩ := numsIn_slice hN
  clear hN
  have hmk := hmk_seen
  go_enter Try.func7, Try.ntmps7
  go_wp2_with fail
  clear hmk
  have hF := box2_facts w vB (Value.slice q zs.length capN) 25
  have hT2 := hT.1
  clear hT
  generalize w.alloc (Obj.cells #[vB, Value.slice q zs.length capN] 25) = W at *
  obtain ⟨hbel, hc0, hc1, hsz⟩ := hF
  have hV := seenAt_new W 4
  have hBV : Below W.heap.size W (W.alloc (Obj.cells seen0 4)) := (Below.refl _ _).alloc (Nat.le_refl _) _
  generalize W.alloc (Obj.cells seen0 4) = V at *
  rw [hsz] at hV
  have HV := Lib.hid hV
  have HC1 := Lib.hid hc1
  have HSZ := Lib.hid hsz
  clear hV hc0 hc1 hsz
  go_loopw [4] (fun i wr => ∃ k : Nat, i = .int .i64 k ∧ k ≤ 255 ∧ Below W.heap.size W wr ∧ Hid (SeenAt wr (w.heap.size + 1) k)) (fun i _ => (255 - intOf i).toNat)
  case atStart => exact ⟨0, rfl, by omega, hBV, HV⟩
  case round =>
    obtain ⟨k, rfl, h1, hwr, HS⟩ := hrel
    have hc1 := below_box1 HC1 HSZ hwr
    by_cases h4 : k < 255
    · have hu := Gf.up_lt k 1 (by decide)
      have hu0 := Gf.up_ne_zero k
      have e1 : gp 2 (k : Int) = ((Gf.up k 1 : Nat) : Int) := by rw [show (2 : Int) = ((2 : Nat) : Int) from rfl, gp_nat, Gf.pow_two]
      have e2 : gp 2 ((k : Int) + 255) = ((Gf.up k 1 : Nat) : Int) := by
        rw [show (2 : Int) = ((2 : Nat) : Int) from rfl, show ((k : Int) + 255) = ((255 + k : Nat) : Int) by omega, gp_nat, Gf.pow_two, Gf.up_add, Gf.up_255 1 (by decide)]
      have e3 := Gf.log_up h4
      have HF : Hid (seenB k (Gf.up k 1) = false) := seenB_at h4
      have HN : Hid (∀ w', SeenAt w' (w.heap.size + 1) k → SeenAt (w'.setCell ⟨w.heap.size + 1, Gf.up k 1, none⟩ (.bool true)) (w.heap.size + 1) (k + 1)) := fun w' h => seenAt_next h h4
      generalize Gf.up k 1 = x at *
      have hxe : ((x : Int) == 0) = false := by rw [beq_eq_false_iff_ne]; omega
      go_wp2_with (first
        | (go_at_call 16; refine (fieldExp_yes _ _ (by omega) (by omega)).mono ?_; rintro e w' ⟨rfl, rfl⟩)
        | (go_at_call 15; refine (num_any _ _).mono ?_; rintro e w' ⟨rfl, rfl⟩))
      refine (fieldLog_yes _ _ (by omega) (by omega)).mono ?_
      rintro e w1 ⟨rfl, hb1⟩
      have hb2 := hwr.trans (hb1.mono hwr.size)
      have HS1 := Lib.hid (seenAt_below HS.out hb1)
      obtain ⟨hs1, hs2⟩ := HS1.out x hu
      rw [HF.out] at hs1
      have hc2 := below_box1 HC1 HSZ hb2
      clear hc1
      go_wp2_with (first
        | (go_at_call 15; refine (num_any _ _).mono ?_; rintro e w' ⟨rfl, rfl⟩))
      go_roundw
      case rel => exact ⟨k + 1, by go_num, by omega, hb2.setCell (p := ⟨w.heap.size + 1, x, none⟩) (by rw [HSZ.out]; exact Nat.le_refl _) _, HN.out _ HS1.out⟩
      case measure => simp [intOf]; omega
    · have hge : decide ((0 : Int) ≤ zs.length) = true := by simp
      go_wp2_with (go_at_call 13; refine (wakes_any _).mono ?_; rintro e w' ⟨rfl, rfl⟩)
      all_goals
        go_ret
        exact ⟨rfl, hbel.trans (hwr.mono hbel.size)⟩
end Go.Proofs.Ytjnalbhfinejgaa
