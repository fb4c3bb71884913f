/- Patterns: the code's matching, walked. -/
import Derived.Test.YtlkadlhncbgdbaaDoorNamS
namespace Go.Proofs.YtlkadlhncbgdbaaDoor
open Go.ChangeShapes Go.WideShapes Go.ChangeAt Go.RowKit Go.Joins
set_option linter.unusedVariables false
set_option linter.unusedSimpArgs false

def globE (p s : ByteArray) : Int := if p.size ≤ 40 ∧ s.size ≤ 40 then 0 else 2
def globV (p s : ByteArray) : Bool := if p.size ≤ 40 ∧ s.size ≤ 40 then M (parse p.data.toList) s.data.toList else false
def chTo (c : UInt8) (l : List UInt8) (f : Nat → Bool) (k i : Nat) : Bool := if k < i then stepCh c l f i else f i

theorem restPat_len {p : List UInt8} (h : p ≠ []) : (restPat p).length < p.length := by
  unfold restPat
  have := List.length_pos_iff.2 h
  split <;> rw [List.length_drop] <;> omega
theorem chTo_next (c : UInt8) (l : List UInt8) (f : Nat → Bool) (k : Nat) : ∀ i, i ≠ k + 1 → chTo c l f k i = chTo c l f (k + 1) i := by
  intro i hi
  unfold chTo
  by_cases h : k + 1 < i
  · rw [if_pos h, if_pos (by omega)]
  · rw [if_neg h, if_neg (by omega)]

theorem firstTok_one {r : List UInt8} (h : [42, 42].isPrefixOf ((42 : UInt8) :: r) = false) : firstTok (42 :: r) = .many okIn := by
  show (if [42, 42].isPrefixOf ((42 : UInt8) :: r) = true then Tok.many okAll else if (42 : UInt8) = 42 then Tok.many okIn else Tok.ch 42) = _
  rw [h]; simp
theorem firstTok_ch {c : UInt8} {r : List UInt8} (h : [42, 42].isPrefixOf (c :: r) = false) (hc : c ≠ 42) : firstTok (c :: r) = .ch c := by
  show (if [42, 42].isPrefixOf (c :: r) = true then Tok.many okAll else if c = 42 then Tok.many okIn else Tok.ch c) = _
  rw [h, if_neg hc]; simp

theorem hmkB {n : Nat} (hn : n ≤ 100000) : ∀ w, (Instr.makeSlice 49 (.int .i64 ((n : Int) + 1)) (.int .i64 ((n : Int) + 1))).run Tryd.prog w = .ok (.slice (some ⟨w.heap.size, 0, none⟩) (n + 1) (n + 1)) (w.alloc (.cells (Array.replicate (n + 1) (.bool false)) 4)) := by
  intro w
  have hi : ∃ i, Tryd.prog.info? 4 = some i ∧ i.zero = some (.bool false) ∧ i.size = 1 ∧ i.bytes = 1 := by
    have h : (Tryd.prog.info? 4).map (fun i => (i.zero, i.size, i.bytes)) = some (some (.bool false), 1, 1) := by kernel_rfl
    obtain ⟨i0, h1, h2, h3, h4⟩ := info_parts h
    exact ⟨i0, h1, h2, h3, h4⟩
  obtain ⟨i, h1, h2, h3, h4⟩ := hi
  have hr := run_make (P := Tryd.prog) w 49 4 i _ Tryd.underlying49 h1 h2 .i64 .i64 ((n : Int) + 1) ((n : Int) + 1) (by omega) (by omega) (by rw [h4]; omega) (by omega)
  rw [hr]
  have e : madeCells (Value.bool false).cells (((n : Int) + 1).toNat * i.size) = Array.replicate (n + 1) (.bool false) := by
    rw [h3, show ((n : Int) + 1).toNat = n + 1 by omega, Nat.mul_one]
    apply Array.ext
    · simp [madeCells]
    · intro j h1 h2
      simp [madeCells, Value.cells, Nat.mod_one]
  rw [e, show ((n : Int) + 1).toNat = n + 1 by omega]
theorem boolBlk_new (w : World) (n : Nat) (T : TypeId) : BoolBlk (w.alloc (.cells (Array.replicate (n + 1) (.bool false)) T)) w.heap.size (fun _ => false) n := by
  intro i hi
  refine ⟨?_, ?_⟩
  · rw [cell_of_row _ _ _ _ _ _ (heap_alloc_new w _), Array.getElem?_replicate, if_pos (by omega)]
  · unfold World.frozen?
    rw [heap_alloc_new]
    simp

set_option maxRecDepth 100000 in
set_option maxHeartbeats 4000000 in
theorem glob_any (p s : ByteArray) (w : World) (hp : p.size ≤ 1000000) (hs : s.size ≤ 1000000) :
    Calls Tryd.prog 20 #[.string p, .string s] w fun e w' => e = .returned (.tuple #[.bool (globV p s), .int .i64 (globE p s)]) ∧ Below w.heap.size w w' := by
  by_cases h40 : p.size ≤ 40 ∧ s.size ≤ 40
  · have HR : Hid (globV p s = M (parse p.data.toList) s.data.toList ∧ globE p s = 0) := by unfold globV globE; rw [Hid, if_pos h40, if_pos h40]; exact ⟨rfl, rfl⟩
    obtain ⟨h1, h2⟩ := h40
    have hmk := hmkB (n := s.size) (by omega)
    go_enter Tryd.func20, Tryd.ntmps20
    go_upto_region 4 with fail
    have HB0 := Lib.hid (boolBlk_new w s.size 4)
    have HW0 : Hid (Below w.heap.size w (w.alloc (.cells (Array.replicate (s.size + 1) (.bool false)) 4))) := (Below.refl _ _).alloc (Nat.le_refl _) _
    clear hmk
    generalize w.alloc (.cells (Array.replicate (s.size + 1) (.bool false)) 4) = W at *
    obtain ⟨c1, c2⟩ := HB0.out 0 (by omega)
    have HB1 : Hid (BoolBlk (W.setCell ⟨w.heap.size, 0, none⟩ (.bool true)) w.heap.size (fun i => decide (i = 0)) s.size) := HB0.out.next true rfl (fun i hi => by simp [hi])
    have HW1 := Lib.hid (HW0.out.setCell (p := ⟨w.heap.size, 0, none⟩) (Nat.le_refl _) (.bool true))
    have HF0 : Hid (M (parse p.data.toList) s.data.toList = true ↔ Fwd (fun i => decide (i = 0)) (parse p.data.toList) s.data.toList) := by
      constructor
      · intro h; exact ⟨0, Nat.zero_le _, rfl, h⟩
      · rintro ⟨i, hi, hf, hm⟩
        obtain rfl : i = 0 := of_decide_eq_true hf
        exact hm
    clear HB0 HW0
    have n0 : (0 : Int) < ((s.size + 1 : Nat) : Int) := by omega
    go_wp2_with fail
    go_loopw [0] (fun v wr => ∃ (P : ByteArray) (f : Nat → Bool), v = .string P ∧ P.size ≤ 40 ∧ Hid (BoolBlk wr w.heap.size f s.size) ∧ Hid (M (parse p.data.toList) s.data.toList = true ↔ Fwd f (parse P.data.toList) s.data.toList) ∧ Hid (Below w.heap.size w wr)) (fun v _ => match v with | .string t => t.size | _ => 0)
    case atStart => exact ⟨p, _, rfl, h1, HB1, HF0, HW1⟩
    case round =>
      clear HB1 HF0 HW1 c1 c2
      obtain ⟨P, f, rfl, hP, HB, HF, HW⟩ := hrel
      by_cases hP0 : 0 < P.size
      · have hne : P.toList.isEmpty = false := by
          rw [ByteArray.toList_eq]
          cases hl : P.data.toList with
          | nil => have := str_len P; rw [hl] at this; simp at this; omega
          | cons a l => rfl
        have hPn : P.data.toList ≠ [] := by intro e; have := str_len P; rw [e] at this; simp at this; omega
        have HF2 : Hid (M (parse p.data.toList) s.data.toList = true ↔ Fwd f (firstTok P.data.toList :: parse (restPat P.data.toList)) s.data.toList) := by rw [Hid, ← parse_first hPn]; exact HF.out
        cases htwo : Lib.hasPrefix P.data.toList [42, 42]
        · have hca : ∀ h : 0 < P.size, (P[0]'h).toNat = (P[0]'hP0).toNat := fun h => rfl
          have e42 : ((P[0].toNat : Int) == 42) = (P[0] == 42) := by
            rw [Bool.eq_iff_iff]
            simp only [beq_iff_eq]
            exact ⟨fun h => UInt8.toNat_inj.1 (by show _ = 42; omega), fun h => by rw [h]; rfl⟩
          have HT0 : Hid (P.data.toList = P[0] :: P.data.toList.drop 1) := by have := drop_at hP0; rw [Hid]; simpa using this
          have hp1 : (1 : Int) ≤ (P.size : Int) := by omega
          cases h42 : (P[0] == 42)
          · have HN : Hid (firstTok P.data.toList = .ch P[0] ∧ P.data.toList.drop 1 = restPat P.data.toList) := by
              have hp0 : P[0] ≠ 42 := fun e => by rw [e] at h42; cases h42
              unfold Lib.hasPrefix at htwo
              refine ⟨?_, ?_⟩
              · rw [HT0.out] at htwo ⊢
                exact firstTok_ch htwo hp0
              · unfold restPat
                rw [htwo]; simp
            rw [h42] at e42
            obtain ⟨R, hR⟩ : ∃ R : ByteArray, P.extract 1 P.size = R := ⟨_, rfl⟩
            have HRR : Hid (R.data.toList = restPat P.data.toList) := by rw [← hR, Hid, ← HN.out.2, extract_drop]
            have HRS : Hid (R.size < P.size) := by
              have h2 := restPat_len hPn
              rw [← HRR.out, str_len, str_len] at h2
              exact h2
            obtain ⟨R2, hR2⟩ : ∃ R : ByteArray, (⟨(Lib.trimPrefix P.data.toList [42, 42]).toArray⟩ : ByteArray) = R := ⟨_, rfl⟩
            have hZ : (P[0]'hP0).toNat < 256 := UInt8.toNat_lt _
            clear HF hPn HT0
            go_wp2_with (first
              | (go_at_call 27; refine (sh_strings_CutPrefix _ _ _).mono ?_; rintro e w' ⟨rfl, rfl⟩; rw [show (⟨#[42, 42]⟩ : ByteArray).data.toList = [42, 42] from rfl, hR2, htwo])
              | go_in)
            obtain ⟨c0, hc0⟩ : ∃ c0 : UInt8, P[0] = c0 := ⟨_, rfl⟩
            rw [hc0] at HN
            go_loopw [9] (fun i wx => ∃ k : Nat, i = .int .i64 k ∧ k ≤ s.size ∧ Hid (BoolBlk wx w.heap.size (chTo c0 s.data.toList f k) s.size) ∧ Hid (Below w.heap.size w wx)) (fun i _ => (intOf i).toNat)
            case atStart => exact ⟨s.size, rfl, Nat.le_refl _, HB.out.same (fun i hi => by unfold chTo; rw [if_neg (by omega)]), HW⟩
            case round =>
              clear HB HW
              obtain ⟨k, rfl, hk, HB, HW⟩ := hrel
              by_cases hk0 : 0 < k
              · obtain ⟨j, rfl⟩ : ∃ j, k = j + 1 := ⟨k - 1, by omega⟩
                have hjs : j < s.size := by omega
                obtain ⟨c1, _⟩ := HB.out j (by omega)
                obtain ⟨c2, c3⟩ := HB.out (j + 1) (by omega)
                have hfj : chTo c0 s.data.toList f (j + 1) j = f j := by unfold chTo; rw [if_neg (by omega)]
                rw [hfj] at c1
                have hgc : s.data.toList.getD j 0 = s[j] := by rw [List.getD, str_get hjs]; rfl
                have ecc : ((s[j].toNat : Int) == (c0.toNat : Int)) = (s[j] == c0) := by
                  rw [Bool.eq_iff_iff]
                  simp only [beq_iff_eq]
                  exact ⟨fun h => UInt8.toNat_inj.1 (by omega), fun h => by rw [h]⟩
                have HNX : Hid (∀ v : Bool, v = (f j && (s[j] == c0)) → BoolBlk (wr.setCell ⟨w.heap.size, j + 1, none⟩ (.bool v)) w.heap.size (chTo c0 s.data.toList f j) s.size) := by
                  intro v hv
                  refine HB.out.next v ?_ (fun i hi => chTo_next _ _ _ _ i hi)
                  unfold chTo
                  rw [if_pos (by omega), hv]
                  show (f j && (s.data.toList.getD j 0 == c0)) = _
                  rw [hgc]
                have HWX : Hid (∀ v : Bool, Below w.heap.size w (wr.setCell ⟨w.heap.size, j + 1, none⟩ (.bool v))) := fun v => HW.out.setCell (p := ⟨w.heap.size, j + 1, none⟩) (Nat.le_refl _) (.bool v)
                have w1 : IntKind.i64.wrap (j : Int) = (j : Int) := by rw [IntWalk.i64_in _ (by omega)]
                have e3 : ((j : Int) + 1).toNat = j + 1 := by omega
                have i0 : (0 : Int) ≤ (j : Int) := by omega
                have i1 : (j : Int) < ((s.size + 1 : Nat) : Int) := by omega
                have i2 : (0 : Int) ≤ (j : Int) + 1 := by omega
                have i3 : (j : Int) + 1 < ((s.size + 1 : Nat) : Int) := by omega
                have i4 : (j : Int) < (s.size : Int) := by omega
                have i5 : (j : Int) < (s.size : Int) + 1 := by omega
                have i6 : (j : Int) + 1 < (s.size : Int) + 1 := by omega
                have i7 : (0 : Int) < (P.size : Int) := by omega
                have e4 : (j : Int).toNat = j := by omega
                clear HB HW hfj hgc
                obtain ⟨fj, hfj⟩ : ∃ b, f j = b := ⟨_, rfl⟩
                rw [hfj] at c1 HNX
                rw [← ecc] at HNX
                clear hfj ecc
                cases fj
                · have HB1 := Lib.hid (HNX.out false rfl)
                  have HW1 := Lib.hid (HWX.out false)
                  clear HNX HWX
                  go_upto_region 10 with (fail)
                  go_region
                  all_goals
                    go_wp2_with fail
                    go_roundw
                    case rel => exact ⟨j, by go_num, by omega, HB1.out.drew, HW1.out.drew⟩
                    case measure => first | (simp [intOf]; done) | (simp [intOf]; omega)
                · have HB1 := Lib.hid (HNX.out ((s[j].toNat : Int) == (c0.toNat : Int)) (by simp))
                  have HW1 := Lib.hid (HWX.out ((s[j].toNat : Int) == (c0.toNat : Int)))
                  clear HNX HWX
                  go_upto_region 10 with (fail)
                  go_region
                  all_goals
                    go_wp2_with fail
                    go_roundw
                    case rel => exact ⟨j, by go_num, by omega, HB1.out.drew, HW1.out.drew⟩
                    case measure => first | (simp [intOf]; done) | (simp [intOf]; omega)
              · obtain rfl : k = 0 := by omega
                obtain ⟨c1, c2⟩ := HB.out 0 (by omega)
                have HB1 : Hid (BoolBlk (wr.setCell ⟨w.heap.size, 0, none⟩ (.bool false)) w.heap.size (stepCh c0 s.data.toList f) s.size) := by
                  refine HB.out.next false rfl (fun i hi => ?_)
                  unfold chTo
                  rw [if_pos (by omega)]
                have HW1 := Lib.hid (HW.out.setCell (p := ⟨w.heap.size, 0, none⟩) (Nat.le_refl _) (.bool false))
                have HFN : Hid (M (parse p.data.toList) s.data.toList = true ↔ Fwd (stepCh c0 s.data.toList f) (parse R.data.toList) s.data.toList) := by
                  rw [Hid, HF2.out, HN.out.1, fwd_ch, HRR.out]
                clear HB HW
                go_wp2_with fail
                exact ⟨⟨R, _, rfl, by have := HRS.out; omega, HB1, HFN, HW1⟩, HRS.out⟩
          · have HN : Hid (firstTok P.data.toList = .many okIn ∧ P.data.toList.drop 1 = restPat P.data.toList) := by
              have hp0 : P[0] = 42 := eq_of_beq h42
              unfold Lib.hasPrefix at htwo
              refine ⟨?_, ?_⟩
              · rw [HT0.out, hp0] at htwo ⊢
                exact firstTok_one htwo
              · unfold restPat
                rw [htwo]; simp
            rw [h42] at e42
            obtain ⟨R, hR⟩ : ∃ R : ByteArray, P.extract 1 P.size = R := ⟨_, rfl⟩
            have HRR : Hid (R.data.toList = restPat P.data.toList) := by rw [← hR, Hid, ← HN.out.2, extract_drop]
            have HRS : Hid (R.size < P.size) := by
              have h2 := restPat_len hPn
              rw [← HRR.out, str_len, str_len] at h2
              exact h2
            obtain ⟨R2, hR2⟩ : ∃ R : ByteArray, (⟨(Lib.trimPrefix P.data.toList [42, 42]).toArray⟩ : ByteArray) = R := ⟨_, rfl⟩
            have hZ : (P[0]'hP0).toNat < 256 := UInt8.toNat_lt _
            clear HF hPn HT0
            go_wp2_with (first
              | (go_at_call 27; refine (sh_strings_CutPrefix _ _ _).mono ?_; rintro e w' ⟨rfl, rfl⟩; rw [show (⟨#[42, 42]⟩ : ByteArray).data.toList = [42, 42] from rfl, hR2, htwo])
              | (go_at_call 28; refine (over_any w.heap.size _ _ _ f _ (Nat.le_refl _) (by omega) HB.out).mono ?_; rintro e w' ⟨rfl, hblk, hbw⟩))
            have HFN : Hid (M (parse p.data.toList) s.data.toList = true ↔ Fwd (stepOver (okOf false) s.data.toList f) (parse R.data.toList) s.data.toList) := by
              rw [Hid, HF2.out, HN.out.1, fwd_many, HRR.out]; rfl
            exact ⟨⟨R, _, rfl, by have := HRS.out; omega, hblk, HFN, HW.out.trans hbw⟩, HRS.out⟩
        · have HN : Hid (firstTok P.data.toList = .many okAll ∧ Lib.trimPrefix P.data.toList [42, 42] = restPat P.data.toList ∧ 2 ≤ P.size) := by
            unfold Lib.hasPrefix at htwo
            refine ⟨?_, ?_, ?_⟩
            · unfold firstTok
              cases hl : P.data.toList with
              | nil => exact absurd hl hPn
              | cons c r => rw [hl] at htwo; simp only [htwo, if_true]
            · unfold Lib.trimPrefix restPat Lib.hasPrefix
              rw [if_pos htwo, if_pos htwo]; rfl
            · obtain ⟨t, ht⟩ := List.isPrefixOf_iff_prefix.1 htwo
              have h1 := congrArg List.length ht
              rw [str_len] at h1
              simp at h1; omega
          obtain ⟨R, hR⟩ : ∃ R : ByteArray, (⟨(Lib.trimPrefix P.data.toList [42, 42]).toArray⟩ : ByteArray) = R := ⟨_, rfl⟩
          have HRR : Hid (R.data.toList = restPat P.data.toList) := by rw [← hR, Hid, ← HN.out.2.1]
          have HRS : Hid (R.size < P.size) := by
            have h2 := restPat_len hPn
            rw [← HRR.out, str_len, str_len] at h2
            exact h2
          clear HF hPn
          go_wp2_with (first
            | (go_at_call 27; refine (sh_strings_CutPrefix _ _ _).mono ?_; rintro e w' ⟨rfl, rfl⟩; rw [show (⟨#[42, 42]⟩ : ByteArray).data.toList = [42, 42] from rfl, hR, htwo])
            | (go_at_call 28; refine (over_any w.heap.size _ _ _ f _ (Nat.le_refl _) (by omega) HB.out).mono ?_; rintro e w' ⟨rfl, hblk, hbw⟩))
          have HFN : Hid (M (parse p.data.toList) s.data.toList = true ↔ Fwd (stepOver (okOf true) s.data.toList f) (parse R.data.toList) s.data.toList) := by
            rw [Hid, HF2.out, HN.out.1, fwd_many, HRR.out]; rfl
          exact ⟨⟨R, _, rfl, by have := HRS.out; omega, hblk, HFN, HW.out.trans hbw⟩, HRS.out⟩
      · have hne : P.toList.isEmpty = true := by
          rw [ByteArray.toList_eq]
          cases hl : P.data.toList with
          | nil => rfl
          | cons a l => have := str_len P; rw [hl] at this; simp at this; omega
        have HL : Hid (globV p s = f s.size) := by
          have hl : P.data.toList = [] := by rw [ByteArray.toList_eq] at hne; simpa using hne
          have h := HF.out
          rw [hl, parse_nil, fwd_nil, str_len] at h
          rw [Hid, HR.out.1]
          exact Bool.eq_iff_iff.2 h
        obtain ⟨d1, _⟩ := HB.out s.size (Nat.le_refl _)
        have m1 : (s.size : Int) < ((s.size + 1 : Nat) : Int) := by omega
        clear HF HB
        go_wp2_with fail
        go_ret2
        exact ⟨by rw [HL.out, HR.out.2]; rfl, HW.out⟩
  · have HR : Hid (globV p s = false ∧ globE p s = 2) := by unfold globV globE; rw [Hid, if_neg h40, if_neg h40]; exact ⟨rfl, rfl⟩
    go_enter Tryd.func20, Tryd.ntmps20
    by_cases hp4 : p.size ≤ 40
    · have d1 : decide (40 < (p.size : Int)) = false := by simp; omega
      have d2 : decide (40 < (s.size : Int)) = true := by simp; omega
      clear h40
      go_wp2_with fail
      go_ret2
      exact ⟨by rw [HR.out.1, HR.out.2]; rfl, Below.refl _ _⟩
    · have d1 : decide (40 < (p.size : Int)) = true := by simp; omega
      clear h40
      go_wp2_with fail
      go_ret2
      exact ⟨by rw [HR.out.1, HR.out.2]; rfl, Below.refl _ _⟩
end Go.Proofs.YtlkadlhncbgdbaaDoor
