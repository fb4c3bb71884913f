/- shard.Put, walked where the row is full (the first append grows). -/
import Derived.Test.YtiminahobifomaaDoorShB
import Derived.ArgAppend
namespace Go.Proofs.YtiminahobifomaaDoor
open Go.ChangeShapes Go.WideShapes Go.ChangeAt Go.RowKit Go.Joins
set_option linter.unusedVariables false
set_option linter.unusedSimpArgs false

theorem own_baseP {w : World} {B B' k n : Nat} {e : TypeId} {v : Value} {xs : List Value} (hB : B ≤ B') (h : w.ownsRow B' e k v n xs) : w.ownsRow B e k v n xs := by
  refine ⟨h.1, ?_⟩
  rcases h.2 with h2 | ⟨g, cap, cur, e1, e2, e3⟩
  · exact .inl h2
  · exact .inr ⟨g, cap, cur, e1, Nat.le_trans hB e2, e3⟩

def FirstAt (B b : Nat) (ns : List Nat) (size n j : Nat) (w wr : World) (cw : Value) : Prop :=
  (j = 0 ∧ cw = .slice (some ⟨b, 0, none⟩) ns.length ns.length ∧ wr = w) ∨ (1 ≤ j ∧ wr.ownsRow B 5 1 cw (ns ++ (beL size n).take j).length (u8L (ns ++ (beL size n).take j)))

set_option maxRecDepth 100000 in
set_option maxHeartbeats 2000000 in
theorem put_first (b : Nat) (ns : List Nat) (n size : Nat) (w : World) (hcs : ∀ j u, (u8L ns)[j]? = some u → w.cell? ⟨b, j, none⟩ = some u) (hb : b < w.heap.size) (hn : n < 18446744073709551616) (hs1 : 1 ≤ size) (hs : size ≤ 8) (hl1 : 1 ≤ ns.length) (hl : ns.length ≤ 100000) :
    Calls Tryd.prog 34 #[.slice (some ⟨b, 0, none⟩) ns.length ns.length, .int .u64 (n : Int), .int .i64 (size : Int)] w fun e w' => ∃ r, e = .returned r ∧ w'.ownsRow w.heap.size 5 1 r (ns ++ beL size n).length (u8L (ns ++ beL size n)) ∧ Below w.heap.size w w' := by
  obtain ⟨y0, hi, hz0, hz1, hz2⟩ := info_parts infoU8sh
  obtain ⟨B, hB⟩ : ∃ B, B = w.heap.size := ⟨_, rfl⟩
  rw [← hB]
  have HCS := Lib.hid hcs
  have w1 : IntKind.i64.wrap ((size : Int) - 1) = (size : Int) - 1 := IntWalk.i64_in _ (by omega)
  have hBw : B ≤ w.heap.size := by omega
  have HBE := Lib.hid hB
  clear hcs hB
  go_enter Tryd.func34, Tryd.ntmps34
  go_wp2_with fail
  go_loopw [0, 7] (fun bv i wr => ∃ (j : Nat) (cw : Value), cw = bv ∧ i = .int .i64 ((size : Int) - 1 - (j : Int)) ∧ j ≤ size ∧ FirstAt B b ns size n j w wr cw ∧ Below B w wr) (fun _ i _ => (intOf i + 1).toNat)
  case atStart => exact ⟨0, _, rfl, by simp, by omega, .inl ⟨rfl, rfl, rfl⟩, Below.refl _ _⟩
  case round =>
    obtain ⟨j, cw, rfl, rfl, hj, hfa, hwr⟩ := hrel
    by_cases hlt : j < size
    · obtain ⟨k, hk⟩ : ∃ k, k + 1 + j = size := ⟨size - 1 - j, by omega⟩
      have hk2 : (size : Int) - 1 - (j : Int) = (k : Int) := by omega
      rw [hk2]
      obtain ⟨bv, hbv⟩ : ∃ bv : Nat, bv = n / 2 ^ (8 * k) % 256 := ⟨_, rfl⟩
      have eb : (n : Int) / 2 ^ (8 * k) % 256 = (bv : Int) := by rw [hbv]; simp
      have HT : Hid (ns ++ (beL size n).take (j + 1) = (ns ++ (beL size n).take j) ++ [bv]) := by
        rw [Hid, beL_take hlt, hbv, show size - 1 - j = k by omega, List.append_assoc]
      have hlen : (ns ++ (beL size n).take j).length ≤ 100008 := by rw [List.length_append, List.length_take, beL_len]; omega
      have hkj : (k : Int) - 1 = (size : Int) - 1 - ((j + 1 : Nat) : Int) := by omega
      have wk : IntKind.i64.wrap ((k : Int) - 1) = (k : Int) - 1 := IntWalk.i64_in _ (by omega)
      have hj1 : j + 1 ≤ size := hlt
      have HJ1 := Lib.hid hj1
      clear hbv hk2 hj1
      rcases hfa with ⟨hj0, hcw, hww⟩ | ⟨hj1, hown⟩
      · have HT0 : Hid (ns ++ (beL size n).take (j + 1) = ns ++ [bv]) := by
          rw [Hid, HT.out, hj0, List.take_zero, List.append_nil]
        have HJ0 := Lib.hid hj0
        subst hcw
        subst hww
        clear hj0 HT hk hlen
        go_wp2_with (first | (at_builtin; refine wpList_append_grows _ rfl _ _ 37 rfl 5 y0 (.int .u8 0) 1 1 Tryd.underlying37 hi hz0 hz1 hz2 rfl (by decide) (some ⟨b, 0, none⟩) ns.length ns.length (u8L ns) rfl (fun h => by cases h) ?c0 ?c1 ⟨wr.heap.size, 0, none⟩ 1 1 [.int .u8 (bv : Int)] rfl rfl ?c2 ?c3 ?c4 ?c5 ?c6 ?_) | go_in)
        case c0 => rw [u8L_len]; omega
        case c1 =>
          intro b' hb' j' u' hu'
          cases hb'
          have h1 := HCS.out j' u' hu'
          rw [Addr.add_lit, Nat.zero_add]
          rw [← h1]
          exact ((Below.refl wr.heap.size wr).alloc (Nat.le_refl _) _).cell (p := ⟨b, j', none⟩) hb
        case c2 => exact cell_one_new' _ _ _
        case c3 => intro u hu; simp at hu; subst hu; rfl
        case c4 => omega
        case c5 => unfold maxLen; omega
        case c6 => omega
        intro v' w1 hown' hgrow
        have hbx : Below B wr w1 := (((Below.refl wr.heap.size wr).alloc (Nat.le_refl _) _).mono hBw).grown hgrow (by simp; omega) (fun q hq => by cases hq)
        have hown2 : w1.ownsRow B 5 1 v' (ns.length + 1) (u8L ns ++ [.int .u8 (bv : Int)]) := by refine own_baseP ?_ hown'; first | omega | (trace_state; fail)
        clear hown' hgrow hwr
        go_wp2_with fail
        go_roundw
        case rel => exact ⟨j + 1, _, rfl, by first | rw [hkj] | simp, HJ1.out, .inr ⟨by omega, by rw [HT0.out, List.length_append, u8L_app]; exact hown2⟩, hbx⟩
        case measure => simp [intOf]; omega
      · have HJ := Lib.hid hj1
        clear hk hj1
        generalize ns ++ (beL size n).take j = ms at *
        go_wp2_with (first | (at_builtin; refine wpList_append_own _ rfl _ _ 37 rfl B 5 y0 (.int .u8 0) 1 1 Tryd.underlying37 hi hz0 hz1 hz2 rfl (by decide) _ _ _ rfl (hown.alloc _) ⟨wr.heap.size, 0, none⟩ 1 1 [.int .u8 (bv : Int)] rfl rfl ?c1 ?c2 ?c3 ?c4 ?c5 ?_) | go_in)
        case c1 => exact cell_one_new' _ _ _
        case c2 => intro u hu; simp at hu; subst hu; rfl
        case c3 => unfold maxLen; omega
        case c4 => omega
        case c5 => have := hwr.size; simp; omega
        all_goals
          intro v' w1 hown' hgrow _
          have hbx : Below B w w1 := (hwr.alloc (Nat.le_trans hBw hwr.size) _).grown hgrow (by have := hwr.size; simp; omega) (fun q hq => (hown.lt q hq).1)
          clear hown hgrow hwr
          go_wp2_with fail
          go_roundw
          case rel => exact ⟨j + 1, _, rfl, by first | rw [hkj] | simp, HJ1.out, .inr ⟨by omega, by rw [HT.out, List.length_append, u8L_app]; exact hown'⟩, hbx⟩
          case measure => simp [intOf]; omega
    · have hje : j = size := by omega
      have hd : decide ((0 : Int) ≤ (size : Int) - 1 - (j : Int)) = false := decide_eq_false (by omega)
      have HR : Hid (wr.ownsRow B 5 1 cw (ns ++ beL size n).length (u8L (ns ++ beL size n))) := by
        rcases hfa with ⟨hj0, _, _⟩ | ⟨_, h⟩
        · omega
        · rw [hje, List.take_of_length_le (by rw [beL_len]; exact Nat.le_refl _)] at h
          exact h
      clear hje hfa
      go_wp2_with fail
      all_goals
        first
          | (exfalso; omega)
          | (go_ret; exact ⟨_, rfl, HR.out, hwr⟩)
end Go.Proofs.YtiminahobifomaaDoor
