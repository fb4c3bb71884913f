/- CheckTurned, walked. -/
import Derived.Test.YtoebgfacmblibaaCheckR
import Derived.Test.YtoebgfacmblibaaStrs
import Derived.BigQuiet
import Derived.BigRegion
import Derived.StillTailTactics
namespace Go.Proofs.Ytoebgfacmblibaa
open Go.ChangeShapes Go.WideShapes Go.ChangeAt Go.RowKit Go.Joins
set_option linter.unusedVariables false
set_option linter.unusedSimpArgs false

def eight0 : List Nat := List.replicate 8 0
theorem eight0_length : eight0.length = 8 := by simp [eight0]
theorem hmk_eight : ∀ w, (Instr.makeSlice 28 (.int .i64 8) (.int .i64 8)).run Try.prog w = .ok (.slice (some ⟨w.heap.size, 0, none⟩) 8 8) (w.alloc (.cells (cellsOf8 eight0) 5)) := hmk8 (n := 8) (by omega)
theorem pow8_lt {i : Nat} (h : i < 8) : 2 ^ i < 256 := by
  show 2 ^ i < 2 ^ 8
  exact Nat.pow_lt_pow_right (by decide) h
theorem xor_pow_ne (b i : Nat) : b ^^^ 2 ^ i ≠ b := by
  intro e
  have h : b ^^^ (b ^^^ 2 ^ i) = b ^^^ b := by rw [e]
  rw [← Nat.xor_assoc, Nat.xor_self, Nat.zero_xor] at h
  have := Nat.two_pow_pos i
  omega

theorem set_split {l : List Nat} {j v : Nat} (h : j < l.length) : l = l.take j ++ [l.getD j 0] ++ l.drop (j + 1) ∧ l.set j v = l.take j ++ [v] ++ l.drop (j + 1) := by
  constructor
  · rw [List.append_assoc, ← List.getElem_eq_getD (h := h)]
    simp
  · rw [List.set_eq_take_append_cons_drop, if_pos h]; simp

/-- With one bit turned a text's sum is another one. -/
theorem turned_ne (s : ByteArray) (j i : Nat) (hj : j < s.size) (hi : i < 8) :
    (moreI 0 (strOf8 ((bytesOf s).set j ((bytesOf s).getD j 0 ^^^ 2 ^ i))) == moreI 0 s) = false := by
  rw [beq_eq_false_iff_ne]
  intro e
  have hl := bytesOf_lt s
  have hlen : j < (bytesOf s).length := by rw [bytesOf_length]; exact hj
  have hb : (bytesOf s).getD j 0 < 256 := getD_lt hl hlen
  have hv : (bytesOf s).getD j 0 ^^^ 2 ^ i < 256 := Nat.xor_lt_two_pow (n := 8) hb (Nat.pow_lt_pow_right (by decide) hi)
  have hset : ∀ n ∈ (bytesOf s).set j ((bytesOf s).getD j 0 ^^^ 2 ^ i), n < 256 := by
    intro n hn
    rcases List.mem_or_eq_of_mem_set hn with h | h
    · exact hl n h
    · rw [h]; exact hv
  rw [show (0 : Int) = ((0 : Nat) : Int) from rfl, moreI_nat, moreI_nat, bytesOf_strOf8 hset] at e
  have e2 := Int.ofNat.inj e
  obtain ⟨h1, h2⟩ := set_split (v := (bytesOf s).getD j 0 ^^^ 2 ^ i) hlen
  rw [h2] at e2
  conv at e2 => rhs; rw [h1]
  have := Crc.more_ne (c := 0) (by decide) (fun b hb => hl b (List.mem_of_mem_take hb)) (by simpa using hv) (by simpa using hb) (fun b hb => hl b (List.mem_of_mem_drop hb)) (by simp) (by simp) e2
  simp only [List.cons.injEq, and_true] at this
  exact xor_pow_ne _ _ this

/-- With eight bytes in a row made 0, if they were not, a text's sum is another one. -/
theorem zeroed_ne (s t : ByteArray) (k : Nat) (hk : k + 8 ≤ s.size) (ht : bytesOf t = (bytesOf s).take k ++ List.replicate 8 0 ++ (bytesOf s).drop (k + 8)) (hne : t ≠ s) :
    (moreI 0 t == moreI 0 s) = false := by
  rw [beq_eq_false_iff_ne]
  intro e
  have hl := bytesOf_lt s
  have hsz := bytesOf_length s
  have hs : bytesOf s = (bytesOf s).take k ++ ((bytesOf s).drop k).take 8 ++ (bytesOf s).drop (k + 8) := by
    rw [List.append_assoc, show k + 8 = k + 8 from rfl, ← List.drop_drop, List.take_append_drop, List.take_append_drop]
  rw [show (0 : Int) = ((0 : Nat) : Int) from rfl, moreI_nat, moreI_nat, ht] at e
  have e2 := Int.ofNat.inj e
  conv at e2 => rhs; rw [hs]
  have h8 : (((bytesOf s).drop k).take 8).length = 8 := by rw [List.length_take, List.length_drop, hsz]; omega
  have := Crc.more_ne (c := 0) (by decide) (fun b hb => hl b (List.mem_of_mem_take hb)) (fun b hb => by rw [List.eq_of_mem_replicate hb]; decide) (fun b hb => hl b (List.mem_of_mem_drop (List.mem_of_mem_take hb))) (fun b hb => hl b (List.mem_of_mem_drop hb)) (by rw [h8]; simp) (by simp) e2
  apply hne
  have hb : bytesOf t = bytesOf s := by rw [ht, this]; exact hs.symm
  have hinj : ∀ {a b : List UInt8}, a.map UInt8.toNat = b.map UInt8.toNat → a = b := fun h => (List.map_inj_right (fun x y h => UInt8.toNat_inj.1 h)).1 h
  have := hinj hb
  have hd : t.data = s.data := by rw [← Array.toArray_toList (xs := t.data), this]
  exact ByteArray.ext hd

theorem zeroed_bytes (s : ByteArray) (k : Nat) : bytesOf (s.extract 0 k ++ strOf8 eight0 ++ s.extract (k + 8) s.size) = (bytesOf s).take k ++ List.replicate 8 0 ++ (bytesOf s).drop (k + 8) := by
  have hz : bytesOf (strOf8 eight0) = List.replicate 8 0 := bytesOf_strOf8 (fun n hn => by rw [List.eq_of_mem_replicate hn]; decide)
  unfold bytesOf at *
  rw [data_append, data_append, List.map_append, List.map_append, hz, Lib.extract_data, Lib.extract_to_end, List.map_take, List.map_drop, List.map_drop, List.drop_zero, Nat.sub_zero]

set_option maxRecDepth 100000 in
set_option maxHeartbeats 1000000 in
theorem checkTurned_walk (w : World) (vS : Value) (ss : List ByteArray) (hS : TextsIn w vS ss) :
    Calls Try.prog 3 #[.agg #[vS]] w fun e w' => e = .returned (.bool true) ∧ Below w.heap.size w w' := by
  have hF := box1_facts w vS 24
  have HT := Lib.hid (hS.below hF.1)
  obtain ⟨p, cap, rfl, h16, hs, hSl⟩ := hS
  have HSl := Lib.hid (hSl.below hF.1)
  have HB := Lib.hid hs
  clear hSl hs
  go_enter Try.func3, Try.ntmps3
  go_wp2_with fail
  generalize w.alloc (Obj.cells #[Value.slice p ss.length cap] 24) = W at *
  obtain ⟨hbel, hc0, hsz⟩ := hF
  have HC0 := Lib.hid hc0
  have HSZ := Lib.hid hsz
  clear hc0 hsz
  refine (heavy6_any _ ss _ HT.out).mono ?_
  rintro e w1 ⟨heavy, hheavy, rfl, hb1⟩
  cases heavy with
  | true =>
    clear hheavy
    go_wp2_with fail
    go_ret
    exact ⟨rfl, hbel.trans (hb1.mono hbel.size)⟩
  | false =>

    have ht := hheavy rfl
    clear hheavy
    go_wp2_with fail
    go_loopw [3] (fun i wr => ∃ k : Nat, i = .int .i64 k ∧ k ≤ 6 ∧ Below W.heap.size W wr) (fun i _ => (6 - intOf i).toNat)
    case atStart => exact ⟨0, rfl, by omega, hb1⟩
    case round =>
      clear hb1
      obtain ⟨k, rfl, h1, hwo⟩ := hrel
      have hc0 := below_box HC0 HSZ hwo
      by_cases h4 : k < ss.length ∧ k < 6
      · obtain ⟨h3, h4⟩ := h4
        have hk4 : decide ((k : Int) < 6) = true := by simp; omega
        obtain ⟨b, off, s, rfl, hsz, HE, hcell⟩ := text_at (HSl.out.below hwo) HB.out h3
        by_cases h150 : s.size ≤ 150
        · have hd3 : decide ((150 : Int) < s.size) = false := by simp; omega
          have hd4 : decide (150 < s.size) = false := by simp; omega
          go_wp2_with (first
            | (go_at_call 8; refine (of_any _ _ (by unfold maxLen; omega)).mono ?_; rintro e w' ⟨rfl, rfl⟩))
          clear hc0 hcell
          obtain ⟨wo, rfl⟩ : ∃ wo : World, wo = wr := ⟨_, rfl⟩
          go_loopw [6] (fun j wr => ∃ x : Nat, j = .int .i64 x ∧ x ≤ 8 * s.size ∧ Below W.heap.size W wr) (fun j _ => (8 * s.size - intOf j).toNat)
          case atStart => exact ⟨0, rfl, by omega, hwo⟩
          case round =>
            clear hwo
            obtain ⟨x, rfl, hx, hwr⟩ := hrel
            by_cases h6 : x < 8 * s.size
            · have hcv : ∀ w', (convert 9 28 (.string s)).run Try.prog w' = .ok (.slice (some ⟨w'.heap.size, 0, none⟩) s.size (grownCap w' s.size 0 5)) (Lib.bytesWorld w' 5 s) := fun w' => Lib.run_convert_string_bytes w' 9 28 5 s Try.underlying9 Try.underlying28 Try.underlying5
              go_wp2_with fail
              clear hcv
              have HBB := Lib.hid (bytesBlk_of wr 5 s)
              have hbV : Below W.heap.size W (Lib.bytesWorld wr 5 s) := hwr.trans ((bytesWorld_below wr 5 s).mono hwr.size)
              have hle := hwr.size
              generalize Lib.bytesWorld wr 5 s = V at *
              generalize grownCap wr s.size 0 5 = cp at *
              generalize wr.heap.size = B at *
              have hj : x / 8 < s.size := by omega
              obtain ⟨hb256, hcell, hfr⟩ := HBB.out (x / 8) (by rw [bytesOf_length]; exact hj)
              have hp8 : 2 ^ (x % 8) < 256 := pow8_lt (Nat.mod_lt x (by decide))
              have hv256 : (bytesOf s).getD (x / 8) 0 ^^^ 2 ^ (x % 8) < 256 := Nat.xor_lt_two_pow (n := 8) hb256 hp8
              have hbx : bits .xor .u8 (((bytesOf s).getD (x / 8) 0 : Nat) : Int) (2 ^ (x % 8) % 256) = (((bytesOf s).getD (x / 8) 0 ^^^ 2 ^ (x % 8) : Nat) : Int) := by
                rw [show ((2 : Int) ^ (x % 8) % 256) = ((2 ^ (x % 8) : Nat) : Int) by rw [Int.natCast_pow]; show (2 : Int) ^ (x % 8) % 256 = 2 ^ (x % 8); rw [Int.emod_eq_of_lt]; exact Int.pow_nonneg (by decide); have := hp8; rw [show (2 : Int) ^ (x % 8) = ((2 ^ (x % 8) : Nat) : Int) from (Int.natCast_pow 2 (x % 8)).symm]; omega]
                exact bits_xor_u8 hb256 hp8
              have HW := Lib.hid (turned_ne s (x / 8) (x % 8) hj (by omega))
              have HN := Lib.hid (HBB.out.next (k := x / 8) hv256)
              have HLT : Hid (∀ n ∈ (bytesOf s).set (x / 8) ((bytesOf s).getD (x / 8) 0 ^^^ 2 ^ (x % 8)), n < 256) := by
                intro n hn
                rcases List.mem_or_eq_of_mem_set hn with h | h
                · exact bytesOf_lt s n h
                · rw [h]; exact hv256
              clear hp8 hv256
              generalize (bytesOf s).getD (x / 8) 0 ^^^ 2 ^ (x % 8) = v at *
              generalize (bytesOf s).getD (x / 8) 0 = c at *
              have hcv2 := convert_bytes (P := Try.prog) (w := (V.setCell ⟨B, x / 8, none⟩ (.int .u8 (v : Int))).drew) (b := B) (off := 0) (cap := cp) Try.underlying28 Try.underlying5 Try.underlying9 (HN.out.drew.cells)
              have hss : (strOf8 ((bytesOf s).set (x / 8) v)).size ≤ 150 := by rw [strOf8_size, List.length_set, bytesOf_length]; exact h150
              rw [List.length_set, bytesOf_length] at hcv2
              generalize strOf8 ((bytesOf s).set (x / 8) v) = r at *
              have hw := HW.out
              have hj8 : (x : Int) / 8 < s.size := by omega
              have hb2 : Below W.heap.size W (V.setCell ⟨B, x / 8, none⟩ (.int .u8 (v : Int))).drew := (hbV.setCell (p := ⟨B, x / 8, none⟩) hle _).drew
              clear hbV
              go_region
              go_wp2_with (go_at_call 8; refine (of_any _ _ (by unfold maxLen; omega)).mono ?_; rintro e w' ⟨rfl, rfl⟩)
              go_roundw
              case rel => exact ⟨x + 1, by go_num, by omega, hb2⟩
              case measure => simp [intOf]; omega
            · go_wp2_with fail
              clear h6 hx
              obtain ⟨wo, rfl⟩ : ∃ wo : World, wo = wr := ⟨_, rfl⟩
              go_loopw [8] (fun j wr => ∃ y : Nat, j = .int .i64 y ∧ y ≤ s.size ∧ Below W.heap.size W wr) (fun j _ => (s.size - intOf j).toNat)
              case atStart => exact ⟨0, rfl, by omega, hwr⟩
              case round =>
                clear hwr
                obtain ⟨y, rfl, hy, hwr⟩ := hrel
                by_cases h8 : y + 8 ≤ s.size
                · have hd8 : decide ((y : Int) + 8 ≤ s.size) = true := by simp; omega
                  have hmk := hmk_eight
                  have hb1 : Below W.heap.size W (wr.alloc (.cells (cellsOf8 eight0) 5)) := hwr.alloc hwr.size _
                  have hcv := convert_bytes (P := Try.prog) (w := (wr.alloc (.cells (cellsOf8 eight0) 5)).drew) (b := wr.heap.size) (off := 0) (cap := 8) (ns := eight0) Try.underlying28 Try.underlying5 Try.underlying9 (cells8_cell (heap_alloc_new wr _))
                  rw [eight0_length] at hcv
                  have hz8 : (strOf8 eight0).size = 8 := by rw [strOf8_size, eight0_length]
                  go_wp2_with fail
                  go_region
                  have hT := zeroed_bytes s y
                  have hTs : (s.extract 0 y ++ strOf8 eight0 ++ s.extract (y + 8) s.size).size = s.size := by
                    rw [← bytesOf_length, hT, List.length_append, List.length_append, List.length_take, List.length_drop, List.length_replicate, bytesOf_length]; omega
                  have HZ := Lib.hid (zeroed_ne s _ y h8 hT)
                  have hb2 : Below W.heap.size W (wr.alloc (.cells (cellsOf8 eight0) 5)).drew := hb1.drew
                  clear hT hcv hmk hz8 hb1
                  generalize s.extract 0 y ++ strOf8 eight0 ++ s.extract (y + 8) s.size = T at *
                  generalize (wr.alloc (.cells (cellsOf8 eight0) 5)).drew = V at *
                  have hT150 : T.size ≤ 150 := by omega
                  clear hTs
                  go_wp2_with fail
                  · go_roundw
                    case rel => exact ⟨y + 1, by go_num, by omega, hb2⟩
                    case measure => simp [intOf]; omega
                  · have hw := HZ.out (fun e => by subst e; exact absurd rfl (by assumption))
                    refine (of_any _ _ (by unfold maxLen; omega)).mono ?_
                    rintro e w' ⟨rfl, rfl⟩
                    go_wp2_with fail
                    go_roundw
                    case rel => exact ⟨y + 1, by go_num, by omega, hb2⟩
                    case measure => simp [intOf]; omega
                · go_wp2_with fail
                  go_roundw
                  case rel => exact ⟨k + 1, by go_num, by omega, hwr⟩
                  case measure => simp [intOf]; omega
        · have hd3 : decide ((150 : Int) < s.size) = true := by simp; omega
          have hd4 : decide (150 < s.size) = true := by simp; omega
          go_wp2_with fail
          go_roundw
          case rel => exact ⟨k + 1, by go_num, by omega, hwo⟩
          case measure => simp [intOf]; omega
      · go_wp2_with (first
          | (go_at_call 9; refine (wakes9_any _).mono ?_; rintro e w' ⟨rfl, rfl⟩))
        all_goals
          go_ret
          exact ⟨rfl, hbel.trans (hwo.mono hbel.size)⟩
end Go.Proofs.Ytoebgfacmblibaa
