/- Names: the page's own taking apart of a name: the walk. -/
import Derived.Test.YtlkadlhncbgdbaaDoorNamD
import Derived.Test.YtlkadlhncbgdbaaDoorStrsIn
import Derived.Deep.CutRange
import Derived.Deep.CutBlock
import Derived.Deep.RegionHeld3
namespace Go.Proofs.YtlkadlhncbgdbaaDoor
open Go.ChangeShapes Go.WideShapes Go.ChangeAt Go.RowKit Go.Joins
set_option linter.unusedVariables false
set_option linter.unusedSimpArgs false

def strL (l : List UInt8) : ByteArray := ⟨l.toArray⟩
theorem strL_data (s : ByteArray) : strL s.data.toList = s := rfl
theorem data_strL (l : List UInt8) : (strL l).data.toList = l := rfl
/-- What the page says of a name: its parts, its version. -/
def namePs (s : ByteArray) : List ByteArray := if nameOk s.data.toList then (segs (headL s.data.toList)).map strL else []
def nameV (s : ByteArray) : ByteArray := if nameOk s.data.toList then strL (verOf s.data.toList) else ⟨#[]⟩
theorem extract_list (s : ByteArray) (a b : Nat) : (s.extract a b).data.toList = (s.data.toList.drop a).take (b - a) := by
  rw [ByteArray.data_extract, Array.toList_extract]
/-- What is still to be cut from some place on. -/
def segsAt (l : List UInt8) (i : Nat) : List (List UInt8) := if i ≤ l.length then segs (l.drop i) else []
theorem segsAt_step {s : ByteArray} {a i : Nat} (ha : a ≤ i) (hi : i ≤ s.size) (hin : ∀ j, a ≤ j → j < i → ∃ c, s.data.toList[j]? = some c ∧ c ≠ 47) (hout : ∀ c, s.data.toList[i]? = some c → c = 47) :
    segsAt s.data.toList a = (s.extract a i).data.toList :: segsAt s.data.toList (i + 1) := by
  have hp : ∀ c ∈ (s.extract a i).data.toList, c ≠ 47 := by
    intro c hc
    rw [extract_list] at hc
    obtain ⟨j, hj, rfl⟩ := List.getElem_of_mem hc
    rw [List.length_take, List.length_drop, str_len] at hj
    obtain ⟨c, h1, h2⟩ := hin (a + j) (by omega) (by omega)
    rw [List.getElem_take, List.getElem_drop]
    rw [List.getElem?_eq_getElem (by rw [str_len]; omega)] at h1
    rw [Option.some.inj h1]; exact h2
  have hd : s.data.toList.drop a = (s.extract a i).data.toList ++ s.data.toList.drop i := by
    rw [extract_list]
    have h1 := List.take_append_drop (i - a) (s.data.toList.drop a)
    rw [List.drop_drop, show a + (i - a) = i by omega] at h1
    exact h1.symm
  unfold segsAt
  rw [if_pos (by rw [str_len]; omega), hd]
  by_cases h : i = s.size
  · have : s.data.toList.drop i = [] := List.drop_of_length_le (by rw [str_len]; omega)
    rw [this, List.append_nil, if_neg (by rw [str_len]; omega), segs_plain _ hp]
  · have hlt : i < s.size := by omega
    have h47 := hout _ (str_get hlt)
    rw [drop_at hlt, h47, segs_cut _ _ hp, if_pos (by rw [str_len]; omega)]

set_option maxRecDepth 100000 in
set_option maxHeartbeats 2000000 in
theorem refName_any (s : ByteArray) (w : World) (hs : s.size ≤ 9000000000000000000) :
    Calls Tryd.prog 14 #[.string s] w fun e w' => ∃ v, e = .returned (.tuple #[v, .string (nameV s), .bool (nameOk s.data.toList)]) ∧ StrsIn w' v (namePs s) ∧ Below w.heap.size w w' := by
  obtain ⟨i0, hi, hz0, hz1, hz2⟩ := info_parts infoStr
  have HNO : Hid (nameOk s.data.toList = false → nameV s = ⟨#[]⟩ ∧ nameOk s.data.toList = false ∧ namePs s = []) := by
    intro h
    simp [nameV, namePs, h]
  have HYES : Hid (nameOk s.data.toList = true → nameV s = strL (verOf s.data.toList) ∧ nameOk s.data.toList = true ∧ namePs s = (segs (headL s.data.toList)).map strL) := by
    intro h
    simp [nameV, namePs, h]
  by_cases h40 : s.size ≤ 40
  · have hd40 : decide (40 < (s.size : Int)) = false := by simp; omega
    go_enter Tryd.func14, Tryd.ntmps14
    go_upto_block 0 with fail
    go_cut [5, 6] from 15 to 31 (fun v h wx => ∃ V H : ByteArray, v = .string V ∧ h = .string H ∧ Hid (V.data.toList = verOf s.data.toList ∧ H.data.toList = headL s.data.toList) ∧ V.size ≤ 40 ∧ H.size ≤ 40 ∧ Below w.heap.size w wx)
    case first =>
      clear hi hz0 hz1 hz2 HNO HYES hd40
      go_wp2_with fail
      go_loop [5, 6, 7] (fun v h i => ∃ k : Nat, i = .int .i64 k ∧ v = .string ⟨#[108, 97, 116, 101, 115, 116]⟩ ∧ h = .string s ∧ k ≤ s.size ∧ Hid (∀ i, i < k → ∃ c, s.data.toList[i]? = some c ∧ (c != 58) = true)) (fun _ _ i => s.size - (intOf i).toNat)
      case atStart => exact ⟨0, rfl, rfl, rfl, by omega, fun i hi => absurd hi (by omega)⟩
      case round =>
        obtain ⟨k, rfl, rfl, rfl, hk, H⟩ := hrel
        by_cases hlt : k < s.size
        · have e58 : ((s[k].toNat : Int) == 58) = (s[k] == 58) := by
            rw [Bool.eq_iff_iff]
            simp only [beq_iff_eq]
            exact ⟨fun h => UInt8.toNat_inj.1 (by show _ = 58; omega), fun h => by rw [h]; rfl⟩
          cases h58 : (s[k] == 58)
          · rw [h58] at e58
            have HN : Hid (∀ i, i < k + 1 → ∃ c, s.data.toList[i]? = some c ∧ (c != 58) = true) := by
              intro i hi
              by_cases e : i = k
              · subst e; exact ⟨_, str_get hlt, by rw [bne, h58]; rfl⟩
              · exact H.out i (by omega)
            clear H
            go_wp2_with fail
            go_round
            case rel => exact ⟨k + 1, by go_num, rfl, rfl, by omega, HN.out⟩
            case measure => simp [intOf]; omega
          · rw [h58] at e58
            have hL : upTo 58 s.data.toList = k := lead_eq (by rw [str_len]; omega) H.out (fun c hc => by rw [str_get hlt] at hc; rw [← Option.some.inj hc, bne, h58]; rfl)
            have HG : Hid ((s.extract (k + 1) s.size).data.toList = verOf s.data.toList ∧ (s.extract 0 k).data.toList = headL s.data.toList) := by
              refine ⟨?_, ?_⟩
              · unfold verOf; rw [hL, if_pos (by rw [str_len]; exact hlt), extract_drop]
              · unfold headL; rw [hL, extract_list]; simp
            have z1 : (s.extract (k + 1) s.size).size ≤ 40 := by rw [ByteArray.size_extract]; omega
            have z2 : (s.extract 0 k).size ≤ 40 := by rw [ByteArray.size_extract]; omega
            have i0 : (0 : Int) ≤ (k : Int) := by omega
            have i1 : (k : Int) ≤ (s.size : Int) := by omega
            have i2 : (k : Int) + 1 ≤ (s.size : Int) := by omega
            have i3 : (0 : Int) ≤ (k : Int) + 1 := by omega
            clear H hL
            go_wp2_with fail
            go_quiet (fail)
            go_wp2_with fail
            go_meet
            exact ⟨_, _, rfl, rfl, HG, z1, z2, below_drewN (Below.refl _ _) _⟩
        · have hL : upTo 58 s.data.toList = k := lead_eq (by rw [str_len]; omega) H.out (fun c hc => by rw [List.getElem?_eq_none (by rw [str_len]; omega)] at hc; cases hc)
          have HG : Hid (latestL = verOf s.data.toList ∧ s.data.toList = headL s.data.toList) := by
            refine ⟨?_, ?_⟩
            · unfold verOf; rw [hL, if_neg (by rw [str_len]; omega)]
            · unfold headL; rw [hL, List.take_of_length_le (by rw [str_len]; omega)]
          clear H hL
          go_wp2_with fail
          go_meet
          exact ⟨_, _, rfl, rfl, HG, by decide, h40, Below.refl _ _⟩
    case rest =>
      obtain ⟨V, H, rfl, rfl, HVH, hV, hH, hwx⟩ := hcut
      have HOK : Hid (nameOk s.data.toList = ((segs H.data.toList).all partL && verL V.data.toList)) := by
        rw [Hid, HVH.out.1, HVH.out.2]
        unfold nameOk
        rw [decide_eq_true (by rw [str_len]; exact h40), Bool.true_and]
      clear hd40 h40
      go_wp2_with fail
      go_loopw [8, 9, 10] (fun l f i wr => ∃ (pre : List ByteArray) (a k : Nat), f = .int .i64 a ∧ i = .int .i64 k ∧ wr.ownsRow w.heap.size 9 1 l pre.length (pre.map Value.string) ∧ a ≤ k ∧ k ≤ H.size + 1 ∧ pre.length ≤ k ∧ Hid (segs H.data.toList = pre.map (·.data.toList) ++ segsAt H.data.toList a ∧ (∀ p ∈ pre, partL p.data.toList = true) ∧ (∀ j, a ≤ j → j < k → ∃ c, H.data.toList[j]? = some c ∧ c ≠ 47) ∧ (k = H.size + 1 → a = H.size + 1)) ∧ Below w.heap.size w wr) (fun _ _ i _ => H.size + 1 - (intOf i).toNat)
      case atStart => exact ⟨[], 0, 0, rfl, rfl, World.ownsRow_nil _ _ _ _, by omega, by omega, by simp, ⟨by simp [segsAt], by simp, fun j h1 h2 => absurd h2 (by omega), fun h => absurd h (by omega)⟩, hwx⟩
      case round =>
        obtain ⟨pre, a, k, rfl, rfl, hown, hak, hk, hpk, HR, hwr⟩ := hrel
        by_cases hle : k ≤ H.size
        · have hd1 : decide ((k : Int) ≤ (H.size : Int)) = true := by simp; omega
          by_cases hcut : ∀ c, H.data.toList[k]? = some c → c = 47
          · have hst := segsAt_step hak hle HR.out.2.2.1 hcut
            obtain ⟨W, hW⟩ : ∃ W : ByteArray, H.extract a k = W := ⟨_, rfl⟩
            have hWs : W.size ≤ 40 := by rw [← hW, ByteArray.size_extract]; omega
            rw [hW] at hst
            have HP : Hid (partL W.data.toList = false → nameOk s.data.toList = false) := by
              intro hb
              rw [HOK.out, HR.out.1, hst]
              simp [hb]
            have HN : Hid (partL W.data.toList = true → segs H.data.toList = (pre ++ [W]).map (·.data.toList) ++ segsAt H.data.toList (k + 1) ∧ (∀ p ∈ pre ++ [W], partL p.data.toList = true)) := by
              intro hb
              refine ⟨?_, ?_⟩
              · rw [HR.out.1, hst]; simp
              · intro p hp
                rcases List.mem_append.1 hp with hp | hp
                · exact HR.out.2.1 p hp
                · simp at hp; subst hp; exact hb
            have HC : ((k : Int) == (H.size : Int)) = true ∨ ((k : Int) == (H.size : Int)) = false ∧ ∃ h : k < H.size, ((H[k]'h).toNat : Int) == 47 := by
              by_cases e : k = H.size
              · left; simp [e]
              · right
                refine ⟨beq_eq_false_iff_ne.2 (by omega), by omega, ?_⟩
                have := hcut _ (str_get (by omega))
                rw [this]; rfl
            have p0 : (0 : Int) ≤ (a : Int) := by omega
            have p1 : (a : Int) ≤ (k : Int) := by omega
            have p2 : (k : Int) ≤ (H.size : Int) := by omega
            clear hst HR hcut
            have hpr := (part_ref W.data.toList).symm
            cases hb : partL W.data.toList
            · rw [hb] at hpr
              have HBAD := Lib.hid (HNO.out (HP.out hb))
              clear HN HP hb hown
              rcases HC with hc | ⟨hc, hkl, hc2⟩
              · go_wp2_with (first | (go_at_call 22; refine (refPart_any _ _ (by omega)).mono ?_; rintro e w' ⟨rfl, rfl⟩) | go_in)
                go_ret3
                exact ⟨.slice none 0 0, by rw [HBAD.out.1, HBAD.out.2.1]; first | done | rfl, by rw [HBAD.out.2.2]; exact StrsIn.nil _ _ _, hwr⟩
              · go_wp2_with (first | (go_at_call 22; refine (refPart_any _ _ (by omega)).mono ?_; rintro e w' ⟨rfl, rfl⟩) | go_in)
                go_ret3
                exact ⟨.slice none 0 0, by rw [HBAD.out.1, HBAD.out.2.1]; first | done | rfl, by rw [HBAD.out.2.2]; exact StrsIn.nil _ _ _, hwr⟩
            · rw [hb] at hpr
              have hn := HN.out hb
              have HN2 := Lib.hid hn
              clear hn HN HP hb
              rcases HC with hc | ⟨hc, hkl, hc2⟩
              · go_wp2_with (first
                  | (go_at_call 22; refine (refPart_any _ _ (by omega)).mono ?_; rintro e w' ⟨rfl, rfl⟩)
                  | (at_builtin; refine wpList_append_own _ rfl _ _ 22 rfl w.heap.size 9 i0 (.string ByteArray.empty) 1 16 Tryd.underlying22 hi hz0 hz1 hz2 rfl (by decide) _ _ _ rfl (hown.alloc _) ⟨wr.heap.size, 0, none⟩ 1 1 [.string W] rfl rfl ?c1 ?c2 ?c3 ?c4 ?c5 ?_)
                  | go_in)
                case c1 => exact cell_one_new _ _ _
                case c2 => intro u hu; simp at hu; subst hu; rfl
                case c3 => unfold maxLen; omega
                case c4 => omega
                case c5 => have := hwr.size; simp; omega
                all_goals
                  intro v' w1 hown' hgrow _
                  have hbx := append_below hwr hown hgrow
                  clear hown hgrow hwr
                  go_wp2_with fail
                  go_roundw
                  case rel =>
                    refine ⟨pre ++ [W], k + 1, k + 1, by go_num, by go_num, by rw [strs_snoc, List.length_append]; exact hown', by omega, by omega, by simp; omega, ⟨HN2.out.1, HN2.out.2, fun j h1 h2 => absurd h1 (by omega), fun h => h⟩, hbx⟩
                  case measure => simp [intOf]; omega
              · go_wp2_with (first
                  | (go_at_call 22; refine (refPart_any _ _ (by omega)).mono ?_; rintro e w' ⟨rfl, rfl⟩)
                  | (at_builtin; refine wpList_append_own _ rfl _ _ 22 rfl w.heap.size 9 i0 (.string ByteArray.empty) 1 16 Tryd.underlying22 hi hz0 hz1 hz2 rfl (by decide) _ _ _ rfl (hown.alloc _) ⟨wr.heap.size, 0, none⟩ 1 1 [.string W] rfl rfl ?c1 ?c2 ?c3 ?c4 ?c5 ?_)
                  | go_in)
                case c1 => exact cell_one_new _ _ _
                case c2 => intro u hu; simp at hu; subst hu; rfl
                case c3 => unfold maxLen; omega
                case c4 => omega
                case c5 => have := hwr.size; simp; omega
                all_goals
                  intro v' w1 hown' hgrow _
                  have hbx := append_below hwr hown hgrow
                  clear hown hgrow hwr
                  go_wp2_with fail
                  go_roundw
                  case rel =>
                    refine ⟨pre ++ [W], k + 1, k + 1, by go_num, by go_num, by rw [strs_snoc, List.length_append]; exact hown', by omega, by omega, by simp; omega, ⟨HN2.out.1, HN2.out.2, fun j h1 h2 => absurd h1 (by omega), fun h => h⟩, hbx⟩
                  case measure => simp [intOf]; omega
          · have hex : ∃ c, H.data.toList[k]? = some c ∧ c ≠ 47 := by
              obtain ⟨c, hc⟩ := Classical.not_forall.1 hcut
              exact ⟨c, (Classical.not_imp.1 hc).1, (Classical.not_imp.1 hc).2⟩
            have hkl : k < H.size := by
              obtain ⟨c, h1, _⟩ := hex
              have := (List.getElem?_eq_some_iff.1 h1).1
              rwa [str_len] at this
            have h47 : ((H[k].toNat : Int) == 47) = false := by
              obtain ⟨c, h1, h2⟩ := hex
              rw [str_get hkl] at h1
              rw [← Option.some.inj h1] at h2
              exact beq_eq_false_iff_ne.2 (fun e => h2 (UInt8.toNat_inj.1 (by show _ = 47; omega)))
            have hne : ((k : Int) == (H.size : Int)) = false := beq_eq_false_iff_ne.2 (by omega)
            have HN : Hid (∀ j, a ≤ j → j < k + 1 → ∃ c, H.data.toList[j]? = some c ∧ c ≠ 47) := by
              intro j h1 h2
              by_cases e : j = k
              · subst e; exact hex
              · exact HR.out.2.2.1 j h1 (by omega)
            clear hcut hex
            go_wp2_with fail
            go_roundw
            case rel => exact ⟨pre, a, k + 1, rfl, by go_num, hown, by omega, by omega, by omega, ⟨HR.out.1, HR.out.2.1, HN.out, fun h => absurd h (by omega)⟩, hwr⟩
            case measure => simp [intOf]; omega
        · have hke : k = H.size + 1 := by omega
          have hd1 : decide ((k : Int) ≤ (H.size : Int)) = false := by simp; omega
          have hae := HR.out.2.2.2 hke
          have HS : Hid (segs H.data.toList = pre.map (·.data.toList) ∧ (segs H.data.toList).all partL = true) := by
            have h1 := HR.out.1
            rw [hae] at h1
            have h2 : segsAt H.data.toList (H.size + 1) = [] := by unfold segsAt; rw [if_neg (by rw [str_len]; omega)]
            rw [h2, List.append_nil] at h1
            refine ⟨h1, ?_⟩
            rw [h1, List.all_map, List.all_eq_true]
            intro p hp
            exact HR.out.2.1 p hp
          clear HR hae hke
          have hst : StrsIn wr u8 pre := RowIs.of_own hown
          cases hv : verL V.data.toList
          · have HBAD := Lib.hid (HNO.out (by rw [HOK.out, hv, Bool.and_false]))
            clear hown
            go_wp2_with (go_at_call 23; refine (refVersion_any _ _ (by omega)).mono ?_; rintro e w' ⟨rfl, rfl⟩)
            go_ret3
            exact ⟨.slice none 0 0, by rw [HBAD.out.1, HBAD.out.2.1]; first | done | rfl, by rw [HBAD.out.2.2]; exact StrsIn.nil _ _ _, hwr⟩
          · have HGOOD := Lib.hid (HYES.out (by rw [HOK.out, hv, HS.out.2]; rfl))
            clear hown
            go_wp2_with (go_at_call 23; refine (refVersion_any _ _ (by omega)).mono ?_; rintro e w' ⟨rfl, rfl⟩)
            go_ret3
            refine ⟨u8, by rw [HGOOD.out.1, HGOOD.out.2.1, ← HVH.out.1, strL_data]; first | done | rfl, ?_, hwr⟩
            rw [HGOOD.out.2.2, ← HVH.out.2, HS.out.1, List.map_map]
            have e : pre.map (strL ∘ fun x => x.data.toList) = pre := by
              conv => rhs; rw [← List.map_id pre]
              exact List.map_congr_left fun x _ => rfl
            rw [e]
            exact hst
  · have hd40 : decide (40 < (s.size : Int)) = true := by simp; omega
    have hno : nameOk s.data.toList = false := by unfold nameOk; rw [decide_eq_false (by rw [str_len]; omega)]; rfl
    go_enter Tryd.func14, Tryd.ntmps14
    go_wp2_with fail
    have HBAD := Lib.hid (HNO.out hno)
    go_ret3
    exact ⟨.slice none 0 0, by rw [HBAD.out.1, HBAD.out.2.1]; first | done | rfl, by rw [HBAD.out.2.2]; exact StrsIn.nil _ _ _, Below.refl _ _⟩
end Go.Proofs.YtlkadlhncbgdbaaDoor
