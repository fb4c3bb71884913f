/- Texts made to fit: silolaw4.Fitted. -/
import Derived.Test.YtijcmdcjjcemfaaPkA20
import Derived.Test.YtijcmdcjjcemfaaPkA14
namespace Go.Proofs.Ytijcmdcjjcemfaa
open Go.ChangeShapes Go.WideShapes Go.ChangeAt Go.RowKit Go.Joins
set_option linter.unusedVariables false
set_option linter.unusedSimpArgs false

theorem bytes_extN {a b : ByteArray} (h : a.data.toList = b.data.toList) : a = b := ByteArray.ext (Array.toList_inj.1 h)
theorem app_size (a b : ByteArray) : (a ++ b).size = a.size + b.size := ByteArray.size_append
theorem conv_zero (m : Nat) (W : World) : (convert 35 9 (.slice (some ⟨W.heap.size, 0, none⟩) m m)).run Try.prog (W.alloc (.cells (cellsOf8 (List.replicate m 0)) 5)) = .ok (.string (zeroN m)) (W.alloc (.cells (cellsOf8 (List.replicate m 0)) 5)) := by
  have hB := bytesBlk_new W (ns := List.replicate m 0) rfl 5 (by intro y hy; rw [List.eq_of_mem_replicate hy]; decide)
  have := convert_bytes (P := Try.prog) (b := W.heap.size) (off := 0) (cap := m) (ns := List.replicate m 0) Try.underlying35 Try.underlying5 Try.underlying9 (BytesBlk.cells hB)
  rw [List.length_replicate] at this
  exact this

set_option maxRecDepth 100000 in
set_option maxHeartbeats 4000000 in
theorem fitted_any (v : Value) (L : List ByteArray) (k z : Nat) (w : World) (hv : Strs6 w v L) (hl : L.length ≤ 9000000000000000000) (hs : ∀ x ∈ L, x.size ≤ 100000) (hk : k ≤ 200) (hz1 : 1 ≤ z) (hz : z ≤ 10000) :
    Calls Try.prog 9 #[v, .int .i64 (k : Int), .int .i64 (z : Int)] w fun e w' => ∃ (v' : Value) (F : List ByteArray), e = .returned v' ∧ w'.ownsRow w.heap.size 9 1 v' k (F.map Value.string) ∧ F.length = k ∧ (∀ x ∈ F, x.size = z) ∧ Below w.heap.size w w' := by
  obtain ⟨i0, hi, hy0, hy1, hy2⟩ := info_parts infoStr6
  have HV := Lib.hid hv
  have HLS := Lib.hid hs
  have hmk := hmk8 (n := z) (by omega)
  have hzz : (zeroN z).size = z := zeroN_size z
  obtain ⟨A, c, rfl⟩ := hv.shape
  clear hv hs
  go_enter Try.func9, Try.ntmps9
  go_wp2_with fail
  go_loopw [7, 8] (fun l i wr => ∃ n : Nat, i = .int .i64 n ∧ n ≤ k ∧ Below w.heap.size w wr ∧ ∃ F : List ByteArray, Hid (F.length = n ∧ ∀ x ∈ F, x.size = z) ∧ wr.ownsRow w.heap.size 9 1 l n (F.map Value.string)) (fun _ i _ => k - (intOf i).toNat)
  case atStart => exact ⟨0, rfl, by omega, Below.refl _ _, [], ⟨rfl, by simp⟩, World.ownsRow_nil _ _ _ _⟩
  case round =>
    obtain ⟨n, rfl, hn, hwr, F, HF, hown⟩ := hrel
    by_cases hlt : n < k
    · have n0 : (0 : Int) ≤ (n : Int) := by omega
      have hcvz := conv_zero z wr
      have hwz := hwr.alloc hwr.size (.cells (cellsOf8 (List.replicate z 0)) 5)
      have hsk : ∀ u : ByteArray, ∀ w', (convert 9 35 (.string (u.extract 0 z))).run Try.prog w' = .ok (.slice (some ⟨w'.heap.size, 0, none⟩) (u.extract 0 z).size (grownCap w' (u.extract 0 z).size 0 5)) (Lib.bytesWorld w' 5 (u.extract 0 z)) := fun u w' => Lib.run_convert_string_bytes w' 9 35 5 _ Try.underlying9 Try.underlying35 Try.underlying5
      have hes : ∀ u : ByteArray, ((u ++ zeroN z).extract 0 z).size = z := fun u => by rw [ByteArray.size_extract, app_size, hzz]; omega
      by_cases h0 : 0 < L.length
      · have d0 : decide ((0 : Int) < (L.length : Int)) = true := by simp; omega
        have hm : n % L.length < L.length := Nat.mod_lt _ h0
        have e1 : (n : Int).tmod (L.length : Int) = ((n % L.length : Nat) : Int) := by rw [Int.tmod_eq_emod_of_nonneg (by omega)]; exact (Int.natCast_emod n L.length).symm
        obtain ⟨b, o, rfl, hbb, hc⟩ := (HV.out.below hwr).at_ hm
        have hu1 := HLS.out _ (List.getElem_mem hm)
        generalize L[n % L.length]'hm = u at *
        obtain ⟨r, hr⟩ : ∃ r, n % L.length = r := ⟨_, rfl⟩
        rw [hr] at e1 hm hc
        have r0 : (0 : Int) ≤ (r : Int) := by omega
        have r1 : (r : Int) < (L.length : Int) := by omega
        have hn0 : ((L.length : Int) == 0) = false := beq_eq_false_iff_ne.2 (by omega)
        have hut : (u ++ zeroN z).size ≤ 110000 ∧ z ≤ (u ++ zeroN z).size := by rw [app_size, hzz]; omega
        have hutx : u.size + (zeroN z).size ≤ 110000 := by rw [hzz]; omega
        obtain ⟨ha, hb⟩ := hut
        have hcv := hsk (u ++ zeroN z)
        have hss := hes u
        clear hr hsk hes
        go_upto_region 10 with fail
        have e8 : (wr.alloc (.cells (cellsOf8 (List.replicate z 0)) 5)).heap.size = wr.heap.size + 1 := by simp
        have HBB := Lib.hid (bytesBlk_of (wr.alloc (.cells (cellsOf8 (List.replicate z 0)) 5)) 5 ((u ++ zeroN z).extract 0 z))
        have hVb : Below wr.heap.size wr (Lib.bytesWorld (wr.alloc (.cells (cellsOf8 (List.replicate z 0)) 5)) 5 ((u ++ zeroN z).extract 0 z)) := ((Below.refl wr.heap.size wr).alloc (Nat.le_refl _) _).trans ((bytesWorld_below _ _ _).mono (by rw [e8]; omega))
        rw [e8] at HBB
        have hle : wr.heap.size ≤ wr.heap.size + 1 := by omega
        clear hcv hcvz hwz ha hb hutx e8
        generalize Lib.bytesWorld (wr.alloc (.cells (cellsOf8 (List.replicate z 0)) 5)) 5 ((u ++ zeroN z).extract 0 z) = V at *
        generalize grownCap (wr.alloc (.cells (cellsOf8 (List.replicate z 0)) 5)) z 0 5 = cp at *
        generalize (u ++ zeroN z).extract 0 z = s at *
        generalize wr.heap.size + 1 = B at *
        obtain ⟨hb256, hcell, hfr⟩ := HBB.out 0 (by rw [bytesOf_length, hss]; omega)
        generalize (bytesOf s).getD 0 0 = x at *
        obtain ⟨y, hy, hy256⟩ : ∃ y : Nat, ((x : Int) + (n : Int)) % 256 = (y : Int) ∧ y < 256 := ⟨(x + n) % 256, by omega, by omega⟩
        have hnm : (n : Int) % 256 = (n : Int) := by omega
        have HN := Lib.hid (HBB.out.next (k := 0) hy256)
        have hVS : Below wr.heap.size wr (V.setCell ⟨B, 0, none⟩ (.int .u8 (y : Int))) := hVb.setCell (p := ⟨B, 0, none⟩) hle _
        obtain ⟨VV, hVV⟩ : ∃ VV, V.setCell ⟨B, 0, none⟩ (.int .u8 (y : Int)) = VV := ⟨_, rfl⟩
        rw [hVV] at HN hVS
        have hcv2 := convert_bytes (P := Try.prog) (w := VV) (b := B) (off := 0) (cap := cp) Try.underlying35 Try.underlying5 Try.underlying9 (HN.out.cells)
        obtain ⟨T, hT⟩ : ∃ T, strOf8 ((bytesOf s).set 0 y) = T := ⟨_, rfl⟩
        have hTs : T.size = z := by rw [← hT, strOf8_size, List.length_set, bytesOf_length, hss]
        rw [List.length_set, bytesOf_length, hss, hT] at hcv2
        have hown2 := own_below hown hVS
        have hw2 := hwr.trans (hVS.mono hwr.size)
        clear HBB hVb hVS hT HN hown hwr hss
        go_wp2_with (first
          | (at_builtin; refine wpList_append_own _ rfl _ _ 23 rfl w.heap.size 9 i0 (.string ByteArray.empty) 1 16 Try.underlying23 hi hy0 hy1 hy2 rfl (by decide) _ _ _ rfl (hown2.alloc _) ⟨VV.heap.size, 0, none⟩ 1 1 [.string T] rfl rfl ?c1 ?c2 ?c3 ?c4 ?c5 ?_)
          | go_in)
        case c1 => exact cell_one_new' _ _ _
        case c2 => intro u hu; simp at hu; subst hu; rfl
        case c3 => unfold maxLen; omega
        case c4 => omega
        case c5 => have := hw2.size; simp; omega
        all_goals
          intro v' w1 hown' hgrow _
          have hbx := append_below hw2 hown2 hgrow
          clear hown2 hgrow hw2
          go_wp2_with fail
          go_roundw
          case rel =>
            refine ⟨n + 1, by go_num, by omega, hbx, F ++ [T], ⟨by rw [List.length_append, HF.out.1]; rfl, fun q hq => ?_⟩, by rw [List.map_append]; exact hown'⟩
            rcases List.mem_append.1 hq with h | h
            · exact HF.out.2 q h
            · rw [List.mem_singleton] at h; rw [h]; exact hTs
          case measure => simp [intOf]; omega
      · have d0 : decide ((0 : Int) < (L.length : Int)) = false := decide_eq_false (by omega)
        have hss := hes ⟨#[]⟩
        have he0 : (⟨#[]⟩ : ByteArray) ++ zeroN z = zeroN z := by apply bytes_extN; simp [ByteArray.data_append]
        rw [he0] at hss
        have hcv := hsk (zeroN z)
        have ha : (zeroN z).size ≤ 110000 := by rw [hzz]; omega
        have hb : z ≤ (zeroN z).size := by rw [hzz]; omega
        have hutx : True := trivial
        clear hsk hes
        go_upto_region 10 with fail
        have e8 : (wr.alloc (.cells (cellsOf8 (List.replicate z 0)) 5)).heap.size = wr.heap.size + 1 := by simp
        have HBB := Lib.hid (bytesBlk_of (wr.alloc (.cells (cellsOf8 (List.replicate z 0)) 5)) 5 ((zeroN z).extract 0 z))
        have hVb : Below wr.heap.size wr (Lib.bytesWorld (wr.alloc (.cells (cellsOf8 (List.replicate z 0)) 5)) 5 ((zeroN z).extract 0 z)) := ((Below.refl wr.heap.size wr).alloc (Nat.le_refl _) _).trans ((bytesWorld_below _ _ _).mono (by rw [e8]; omega))
        rw [e8] at HBB
        have hle : wr.heap.size ≤ wr.heap.size + 1 := by omega
        clear hcv hcvz hwz ha hb hutx e8
        generalize Lib.bytesWorld (wr.alloc (.cells (cellsOf8 (List.replicate z 0)) 5)) 5 ((zeroN z).extract 0 z) = V at *
        generalize grownCap (wr.alloc (.cells (cellsOf8 (List.replicate z 0)) 5)) z 0 5 = cp at *
        generalize (zeroN z).extract 0 z = s at *
        generalize wr.heap.size + 1 = B at *
        obtain ⟨hb256, hcell, hfr⟩ := HBB.out 0 (by rw [bytesOf_length, hss]; omega)
        generalize (bytesOf s).getD 0 0 = x at *
        obtain ⟨y, hy, hy256⟩ : ∃ y : Nat, ((x : Int) + (n : Int)) % 256 = (y : Int) ∧ y < 256 := ⟨(x + n) % 256, by omega, by omega⟩
        have hnm : (n : Int) % 256 = (n : Int) := by omega
        have HN := Lib.hid (HBB.out.next (k := 0) hy256)
        have hVS : Below wr.heap.size wr (V.setCell ⟨B, 0, none⟩ (.int .u8 (y : Int))) := hVb.setCell (p := ⟨B, 0, none⟩) hle _
        obtain ⟨VV, hVV⟩ : ∃ VV, V.setCell ⟨B, 0, none⟩ (.int .u8 (y : Int)) = VV := ⟨_, rfl⟩
        rw [hVV] at HN hVS
        have hcv2 := convert_bytes (P := Try.prog) (w := VV) (b := B) (off := 0) (cap := cp) Try.underlying35 Try.underlying5 Try.underlying9 (HN.out.cells)
        obtain ⟨T, hT⟩ : ∃ T, strOf8 ((bytesOf s).set 0 y) = T := ⟨_, rfl⟩
        have hTs : T.size = z := by rw [← hT, strOf8_size, List.length_set, bytesOf_length, hss]
        rw [List.length_set, bytesOf_length, hss, hT] at hcv2
        have hown2 := own_below hown hVS
        have hw2 := hwr.trans (hVS.mono hwr.size)
        clear HBB hVb hVS hT HN hown hwr hss
        go_wp2_with (first
          | (at_builtin; refine wpList_append_own _ rfl _ _ 23 rfl w.heap.size 9 i0 (.string ByteArray.empty) 1 16 Try.underlying23 hi hy0 hy1 hy2 rfl (by decide) _ _ _ rfl (hown2.alloc _) ⟨VV.heap.size, 0, none⟩ 1 1 [.string T] rfl rfl ?c1 ?c2 ?c3 ?c4 ?c5 ?_)
          | go_in)
        case c1 => exact cell_one_new' _ _ _
        case c2 => intro u hu; simp at hu; subst hu; rfl
        case c3 => unfold maxLen; omega
        case c4 => omega
        case c5 => have := hw2.size; simp; omega
        all_goals
          intro v' w1 hown' hgrow _
          have hbx := append_below hw2 hown2 hgrow
          clear hown2 hgrow hw2
          go_wp2_with fail
          go_roundw
          case rel =>
            refine ⟨n + 1, by go_num, by omega, hbx, F ++ [T], ⟨by rw [List.length_append, HF.out.1]; rfl, fun q hq => ?_⟩, by rw [List.map_append]; exact hown'⟩
            rcases List.mem_append.1 hq with h | h
            · exact HF.out.2 q h
            · rw [List.mem_singleton] at h; rw [h]; exact hTs
          case measure => simp [intOf]; omega
    · have hnk : n = k := by omega
      have HO : Hid (wr.ownsRow w.heap.size 9 1 u7 k (F.map Value.string)) := by rw [← hnk]; exact hown
      have HF2 : Hid (F.length = k ∧ ∀ x ∈ F, x.size = z) := by rw [← hnk]; exact HF.out
      clear hown hnk
      go_wp2_with fail
      go_ret
      exact ⟨_, F, rfl, HO.out, HF2.out.1, HF2.out.2, hwr⟩
end Go.Proofs.Ytijcmdcjjcemfaa

/- What silolaw4.Ask holds, as it comes in. -/

namespace Go.Proofs.Ytijcmdcjjcemfaa
open Go.ChangeShapes Go.WideShapes Go.ChangeAt Go.RowKit Go.Joins
set_option linter.unusedVariables false
set_option linter.unusedSimpArgs false

set_option maxRecDepth 100000 in
theorem ask4_fits {H : Type} {enc : TypeId × Value → H} {W : World} {b0 base : Nat} {r : Reach} {spare : Nat → Bool} {held : Bool} {v : Value} {d : DataW H} {p : List MemPlace}
    (hv : Value.okWide Try.prog W r b0 26 v) (h : DataW.Trod enc Try.prog W base spare held 26 v d p) (hf : Fits Try.prog 26 d) :
    ∃ (c0 c1 c2 : Value) (S : List T3) (L : List ByteArray) (bs : List Bool), v = .agg #[c0, c1, c2] ∧ ThreesIn W c0 S ∧ TextsIn W c1 L ∧ BoolsIn W c2 bs ∧ S.length ≤ 9223372036854775807 := by
  obtain ⟨cs, rfl, hsz⟩ := okWide_struct Try.underlying26 hv
  obtain ⟨fuel, h⟩ := h
  obtain ⟨l⟩ := cs
  match l, hsz.trans cellsAsk4 with
  | [x0, x1, x2], _ =>
    obtain ⟨⟨S, hS, hS2, hS3⟩, ⟨L, hL⟩, ⟨Bs, hB⟩⟩ := ask4_open h hf
    exact ⟨_, _, _, S, L, Bs, rfl, hS, hL, hB, hS2⟩
end Go.Proofs.Ytijcmdcjjcemfaa
