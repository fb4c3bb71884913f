/- The program's digest, walked: what a hash comes to; of a text; how many blocks it takes; that the statements wake. -/
import Derived.Test.YtnpngkbcfkolnaaDigF
import Derived.Test.YtnpngkbcfkolnaaDigD
namespace Go.Proofs.Ytnpngkbcfkolnaa
open Go.ChangeShapes Go.WideShapes Go.ChangeAt Go.RowKit Go.Joins
set_option linter.unusedVariables false
set_option linter.unusedSimpArgs false
attribute [local go_sem ↓] Go.wp_at_zero Go.wp_at_succ

theorem append_below' {w wr w1 : World} {o : Obj} {e : TypeId} {size n : Nat} {v : Value} {xs : List Value} (hwr : Below w.heap.size w wr) (hown : wr.ownsRow w.heap.size e size v n xs) (hgrow : (wr.alloc o).grownBy w1 v.ownBlock) : Below w.heap.size w w1 :=
  (hwr.alloc hwr.size o).grown hgrow (by have := hwr.size; simp; omega) (fun k hk => (hown.lt k hk).1)
theorem infoU8 : (Try.prog.info? 5).map (fun i => (i.zero, i.size, i.bytes)) = some (some (.int .u8 0), 1, 1) := by kernel_rfl
theorem index_word {i : Nat} (h : i < 8) (z0 z1 z2 z3 z4 z5 z6 z7 : Int) (W : World) : (Instr.index 45 (.agg #[.int .u32 z0, .int .u32 z1, .int .u32 z2, .int .u32 z3, .int .u32 z4, .int .u32 z5, .int .u32 z6, .int .u32 z7]) (.int .i64 (i : Int))).run Try.prog W = .ok (.int .u32 ([z0, z1, z2, z3, z4, z5, z6, z7].getD i 0)) W := by
  have h8 : i = 0 ∨ i = 1 ∨ i = 2 ∨ i = 3 ∨ i = 4 ∨ i = 5 ∨ i = 6 ∨ i = 7 := by omega
  rcases h8 with rfl | rfl | rfl | rfl | rfl | rfl | rfl | rfl
  all_goals (refine @id (_ = _) ?_; kernel_rfl)
/-- The bytes so far as k words were laid. -/
def byV (n : Nat) : Value := .int .u8 (n : Int)
def someB (ws : List Int) (k : Nat) : List Nat := (List.range k).flatMap fun i => wordBytes (ws.getD i 0)
theorem someB_succ (ws : List Int) (k : Nat) : someB ws (k + 1) = someB ws k ++ wordBytes (ws.getD k 0) := by simp [someB, List.range_succ]
theorem someB_length (ws : List Int) (k : Nat) : (someB ws k).length = 4 * k := by
  induction k with
  | zero => rfl
  | succ k ih => rw [someB_succ, List.length_append, ih]; simp [wordBytes]; omega
theorem cell_four_new (w : World) (a b c d : Value) (t : TypeId) : ∀ j u, [a, b, c, d][j]? = some u → (w.alloc (.cells #[a, b, c, d] t)).cell? ((⟨w.heap.size, 0, none⟩ : Addr).add j) = some u := by
  intro j u hj
  rw [Go.WideShapes.add_plain, Nat.zero_add, cell_of_row _ _ _ _ _ _ (heap_alloc_new w _)]
  simpa using hj
theorem word_cells {x : Int} (h0 : 0 ≤ x) (h1 : x < 4294967296) : [Value.int .u8 (x % 256), .int .u8 (x / 256 % 256), .int .u8 (x / 65536 % 256), .int .u8 (x / 16777216)] = (wordBytes x).map byV := by
  have e0 : (x / 2 ^ (8 * 0) % 256) = x % 256 := by simp
  simp only [wordBytes, byV, List.map_cons, List.map_nil]
  have a0 : (((x / 2 ^ (8 * 0) % 256).toNat : Nat) : Int) = x % 256 := by rw [e0]; omega
  have a1 : (((x / 2 ^ (8 * 1) % 256).toNat : Nat) : Int) = x / 256 % 256 := by show (((x / 256 % 256).toNat : Nat) : Int) = _; omega
  have a2 : (((x / 2 ^ (8 * 2) % 256).toNat : Nat) : Int) = x / 65536 % 256 := by show (((x / 65536 % 256).toNat : Nat) : Int) = _; omega
  have a3 : (((x / 2 ^ (8 * 3) % 256).toNat : Nat) : Int) = x / 16777216 := by show (((x / 16777216 % 256).toNat : Nat) : Int) = _; omega
  rw [a0, a1, a2, a3]
theorem own_bytes {w : World} {base : Nat} {v : Value} {ns : List Nat} (h : w.ownsRow base 5 1 v ns.length (ns.map byV)) (hn : 0 < ns.length) : ∃ g cap, v = .slice (some ⟨g, 0, none⟩) ns.length cap ∧ ∀ i, i < ns.length → w.cell? ⟨g, 0 + i, none⟩ = some (.int .u8 ((ns.getD i 0 : Nat) : Int)) := by
  have hr := h
  rcases h.2 with ⟨rfl, hx⟩ | ⟨g, cap, cur, rfl, _⟩
  · simp at hx; subst hx; simp at hn
  · refine ⟨g, cap, rfl, fun i hi => ?_⟩
    have := hr.cellAt i (by simpa using hi)
    rw [Nat.zero_add, this]
    simp [byV, List.getD, hi]

set_option maxRecDepth 100000 in
set_option maxHeartbeats 4000000 in
theorem sum_any (g : Nat) (T : ByteArray) (w : World) (h : HashOf w g T) (hb : T.size ≤ 1000000) :
    Calls Try.prog 17 #[.pointer (some ⟨g, 0, none⟩)] w fun e w' => e = .returned (.string (digestS T)) ∧ Below w.heap.size w w' := by
  obtain ⟨i0, hi, hz0, hz1, hz2⟩ := info_parts infoU8
  obtain ⟨h0, h1, h2, h3, h4, h5, h6, h7, hh⟩ := list8 (midQ_words T (nb T.size)).1
  have hww : Words 8 [h0, h1, h2, h3, h4, h5, h6, h7] := by rw [← hh]; exact midQ_words _ _
  rw [HashOf, hh] at h
  have hrs : (T.extract (64 * nb T.size) T.size).size ≤ 64 := by rw [ByteArray.size_extract]; unfold nb; omega
  obtain ⟨R, hR⟩ : ∃ R, R = T.extract (64 * nb T.size) T.size := ⟨_, rfl⟩
  rw [← hR] at h hrs
  have hwt : blockQ [h0, h1, h2, h3, h4, h5, h6, h7] R T.size true = wordsOf T := by rw [wordsOf, hh, hR]
  have HWT := Lib.hid hwt
  obtain ⟨c0, c1, c2, c3, c4, c5, c6, c7, c8, c9, f0, f1, f2, f3, f4, f5, f6, f7, f8, f9⟩ := hash_cells h
  clear hh hR hwt h
  go_enter Try.func17, Try.ntmps17
  go_wp2_with fail
  go_upto_region 2 with (fail)
  go_cut [18, 19] from 6 to 17 (fun v i wx => ∃ z0 z1 z2 z3 z4 z5 z6 z7 : Int, [z0, z1, z2, z3, z4, z5, z6, z7] = wordsOf T ∧ v = .agg #[.int .u32 z0, .int .u32 z1, .int .u32 z2, .int .u32 z3, .int .u32 z4, .int .u32 z5, .int .u32 z6, .int .u32 z7] ∧ i = .int .i64 0 ∧ Below w.heap.size w wx)
  case first =>
    go_region_with (first | (go_at_call 29; refine (turned_lit h0 h1 h2 h3 h4 h5 h6 h7 R T.size true _ hww hrs (by omega)).mono ?_; rintro e V ⟨Z, hZ, z0, z1, z2, z3, z4, z5, z6, z7, hzz, rfl, hbv⟩; have HBV := Lib.hid (show Below w.heap.size w V by first | exact below_drew0 hbv | exact below_drewN0 hbv | exact hbv); have HZ := Lib.hid hZ; have HZZ := Lib.hid hzz; clear hZ hzz hbv))
    all_goals
      go_wp2_with fail
      go_meet
      exact ⟨_, _, _, _, _, _, _, _, by rw [← HZZ.out, ← HZ.out, HWT.out], rfl, rfl, HBV.out⟩
  case rest =>
  obtain ⟨z0, z1, z2, z3, z4, z5, z6, z7, hzw, rfl, rfl, hbw⟩ := hcut
  have hzw8 : Words 8 [z0, z1, z2, z3, z4, z5, z6, z7] := by rw [hzw]; exact wordsOf_words T
  have HZW := Lib.hid hzw
  have HBW := Lib.hid hbw
  clear hzw hbw c0 c1 c2 c3 c4 c5 c6 c7 c8 c9 f0 f1 f2 f3 f4 f5 f6 f7 f8 f9 HWT
  go_wp2_with fail
  go_loopw [3, 19] (fun v i wr => ∃ k : Nat, i = .int .i64 k ∧ k ≤ 8 ∧ wr.ownsRow wc.heap.size 5 1 v (someB [z0, z1, z2, z3, z4, z5, z6, z7] k).length ((someB [z0, z1, z2, z3, z4, z5, z6, z7] k).map byV) ∧ Below wc.heap.size wc wr) (fun _ i _ => 8 - (intOf i).toNat)
  case atStart => exact ⟨0, rfl, by omega, World.ownsRow_nil _ _ _ _, Below.refl _ _⟩
  case round =>
    obtain ⟨k, rfl, hk, hown, hwr⟩ := hrel
    by_cases hlt : k < 8
    · have hkd : decide ((k : Int) < 8) = true := by simp; omega
      have hidx := fun W => index_word hlt z0 z1 z2 z3 z4 z5 z6 z7 W
      have hxb := hzw8.get hlt
      have hll := someB_length [z0, z1, z2, z3, z4, z5, z6, z7] k
      have hsc := someB_succ [z0, z1, z2, z3, z4, z5, z6, z7] k
      generalize [z0, z1, z2, z3, z4, z5, z6, z7].getD k 0 = x at hidx hxb hsc
      have HLQ := Lib.hid hll
      have HSC := Lib.hid hsc
      have hlen : (someB [z0, z1, z2, z3, z4, z5, z6, z7] k).length ≤ 32 := by omega
      clear hll hsc
      obtain ⟨xb0, xb1⟩ := hxb
      go_wp2_with (first
        | (at_builtin; refine wpList_append_own _ rfl _ _ 26 rfl wc.heap.size 5 i0 (.int .u8 0) 1 1 Try.underlying26 hi hz0 hz1 hz2 rfl (by decide) _ _ _ rfl (hown.alloc _) ⟨wr.heap.size, 0, none⟩ 4 4 [.int .u8 (x % 256), .int .u8 (x / 256 % 256), .int .u8 (x / 65536 % 256), .int .u8 (x / 16777216)] rfl rfl ?c1 ?c2 ?c3 ?c4 ?c5 ?_)
        | go_in)
      case c1 => exact cell_four_new _ _ _ _ _ _
      case c2 => intro u hu; simp at hu; rcases hu with rfl | rfl | rfl | rfl <;> rfl
      case c3 => unfold maxLen; omega
      case c4 => omega
      case c5 => have := hwr.size; simp; omega
      all_goals
        intro v' w1 hown' hgrow _
        have hbx := append_below' hwr hown hgrow
        clear hown hgrow hwr hidx
        go_wp2_with fail
        go_roundw
        case rel =>
          refine ⟨k + 1, by go_num, by omega, ?_, hbx⟩
          rw [word_cells xb0 xb1, ← List.map_append, ← HSC.out] at hown'
          have e : (someB [z0, z1, z2, z3, z4, z5, z6, z7] k).length + 4 = (someB [z0, z1, z2, z3, z4, z5, z6, z7] (k + 1)).length := by rw [HSC.out, List.length_append]; rfl
          rw [e] at hown'
          exact hown'
        case measure => simp [intOf]; omega
    · have hke : k = 8 := by omega
      rw [hke] at hown
      have hown2 : wr.ownsRow wc.heap.size 5 1 _ (digestB [z0, z1, z2, z3, z4, z5, z6, z7]).length ((digestB [z0, z1, z2, z3, z4, z5, z6, z7]).map byV) := hown
      obtain ⟨gb, cap, rfl, hcells⟩ := own_bytes hown2 (by rw [digestB_length]; omega)
      have hcv := convert_bytes (P := Try.prog) (w := wr) (b := gb) (off := 0) (cap := cap) (ns := digestB [z0, z1, z2, z3, z4, z5, z6, z7]) Try.underlying26 Try.underlying5 Try.underlying9 hcells
      rw [digestB_length] at hcv
      rw [digestB_length]
      clear hke hown hown2 hcells
      go_wp2_with fail
      go_ret
      exact ⟨by rw [HZW.out]; rfl, HBW.out.trans (hwr.mono HBW.out.size)⟩
end Go.Proofs.Ytnpngkbcfkolnaa
