/- Names: the code's own taking apart of a name: the walks. -/
import Derived.Test.YtlkadlhncbgdbaaDoorNamE
namespace Go.Proofs.YtlkadlhncbgdbaaDoor
open Go.ChangeShapes Go.WideShapes Go.ChangeAt Go.RowKit Go.Joins
set_option linter.unusedVariables false
set_option linter.unusedSimpArgs false

/-- The library's variable MaxLen holds a number. -/
def MaxW (w : World) : Prop := ∃ m : Int, w.cell? ⟨0, 0, none⟩ = some (.int .i64 m)
theorem MaxW.below {w w' : World} (h : MaxW w) (hb : Below w.heap.size w w') : MaxW w' := by
  obtain ⟨m, hm⟩ := h
  exact ⟨m, below_celllt hm (cell_block hm) hb⟩

def behindL (l : List UInt8) : List UInt8 := if upTo 58 l < l.length then l.drop (upTo 58 l + 1) else []
def toldL (l : List UInt8) : Bool := decide (upTo 58 l < l.length)
theorem cut_any (s : ByteArray) (w : World) (hs : s.size ≤ 1000000) (hm : MaxW w) :
    Calls Tryd.prog 30 #[.string s, .string ⟨#[58]⟩] w fun e w' => e = .returned (.tuple #[.string (strL (headL s.data.toList)), .string (strL (behindL s.data.toList)), .bool (toldL s.data.toList)]) ∧ Below w.heap.size w w' := by
  obtain ⟨m, hm⟩ := hm
  refine (sh_strings_Cut s _ m w (by omega) hm).mono fun e w' ⟨he, n, hw⟩ => ?_
  subst hw
  refine ⟨?_, below_drewN (Below.refl _ _) _⟩
  rw [he]
  have e1 : (⟨#[58]⟩ : ByteArray).data.toList = [58] := rfl
  rw [e1, cut_eq]
  rfl
theorem splitB_segs (s : ByteArray) : Lib.splitB ⟨#[47]⟩ 0 (Lib.countB s ⟨#[47]⟩) s = (segs s.data.toList).map strL := by
  have h := Lib.splitB_data ⟨#[47]⟩ 0 (Lib.countB s ⟨#[47]⟩) s
  have e1 : (⟨#[47]⟩ : ByteArray).data.toList = [47] := rfl
  have e2 : Lib.countB s ⟨#[47]⟩ = s.data.toList.count 47 := Lib.count_one 47 s.data.toList
  rw [e1, e2, splitK_segs] at h
  rw [e2, ← h, List.map_map]
  conv => lhs; rw [← List.map_id (Lib.splitB _ _ _ _)]
  exact List.map_congr_left fun x _ => rfl
theorem strsIn_new (w : World) (L : List ByteArray) (T : TypeId) : StrsIn (w.alloc (.cells (L.map Value.string).toArray T)) (.slice (some ⟨w.heap.size, 0, none⟩) L.length L.length) L := by
  have h := lit_row w (L.map Value.string).toArray T L.length 1 L.length (by simp)
  simpa [StrsIn] using h
theorem split47_any (s : ByteArray) (w : World) (hs : s.size ≤ 1000000) (hm : MaxW w) :
    Calls Tryd.prog 25 #[.string s, .string ⟨#[47]⟩] w fun e w' =>
      e = .returned (.slice (some ⟨w.heap.size, 0, none⟩) ((segs s.data.toList).map strL).length ((segs s.data.toList).map strL).length) ∧ w' = w.alloc (.cells (((segs s.data.toList).map strL).map Value.string).toArray 9) := by
  obtain ⟨m, hm⟩ := hm
  refine (sh_strings_Split s ⟨#[47]⟩ m w (by omega) hm (by decide)).mono fun e w' ⟨he, hw⟩ => ?_
  have hl := Lib.splitB_all ⟨#[47]⟩ (by decide) 0 _ s rfl
  rw [← hl, splitB_segs] at he
  rw [splitB_segs] at hw
  exact ⟨he, hw⟩

theorem segs_len : ∀ (l : List UInt8), ∀ a ∈ segs l, a.length ≤ l.length := by
  intro l
  induction l with
  | nil => intro a ha; simp [segs] at ha; subst ha; simp
  | cons c r ih =>
    intro a ha
    rw [segs] at ha
    split at ha
    · rcases List.mem_cons.1 ha with rfl | ha
      · simp
      · have := ih a ha; simp; omega
    · cases hs : segs r with
      | nil => exact absurd hs (segs_ne r)
      | cons h t =>
        rw [hs] at ha
        rcases List.mem_cons.1 ha with rfl | ha
        · have := ih h (by rw [hs]; simp); simp; omega
        · have := ih a (by rw [hs]; simp [ha]); simp; omega

/-- What the code's taking apart comes to. -/
def SplitOut (s : ByteArray) (w : World) (e : Ending) (w' : World) : Prop :=
  ∃ a b : ByteArray, e = .returned (.tuple #[.string a, .string b, .bool (nameOk s.data.toList)]) ∧ (nameOk s.data.toList = true → a = strL (headL s.data.toList) ∧ b = strL (verOf s.data.toList)) ∧ Below w.heap.size w w'

set_option maxRecDepth 100000 in
set_option maxHeartbeats 2000000 in
theorem split_any (s : ByteArray) (w : World) (hs : s.size ≤ 1000000) (hm : MaxW w) :
    Calls Tryd.prog 24 #[.string s] w (SplitOut s w) := by
  have HM := Lib.hid hm
  clear hm
  by_cases h40 : s.size ≤ 40
  · have hd40 : decide (40 < (s.size : Int)) = false := by simp; omega
    have HOK : Hid (nameOk s.data.toList = ((segs (headL s.data.toList)).all partL && verL (verOf s.data.toList))) := by
      unfold nameOk
      rw [Hid, decide_eq_true (by rw [str_len]; exact h40), Bool.true_and]
    have hh40 : (strL (headL s.data.toList)).size ≤ 40 := by
      have : (headL s.data.toList).length ≤ s.data.toList.length := by unfold headL; rw [List.length_take]; omega
      have h2 := str_len (strL (headL s.data.toList))
      rw [data_strL] at h2
      rw [str_len] at this
      omega
    have hv40 : (strL (verOf s.data.toList)).size ≤ 40 := by
      have : (verOf s.data.toList).length ≤ 40 := by
        unfold verOf
        split
        · rw [List.length_drop, str_len]; omega
        · decide
      have h2 := str_len (strL (verOf s.data.toList))
      rw [data_strL] at h2
      omega
    have hbv : toldL s.data.toList = true → strL (behindL s.data.toList) = strL (verOf s.data.toList) := by
      intro h
      unfold toldL at h
      unfold behindL verOf
      rw [if_pos (of_decide_eq_true h), if_pos (of_decide_eq_true h)]
    have hlv : toldL s.data.toList = false → strL (verOf s.data.toList) = ⟨#[108, 97, 116, 101, 115, 116]⟩ := by
      intro h
      unfold toldL at h
      unfold verOf
      rw [if_neg (of_decide_eq_false h)]
      rfl
    have HH : Hid ((strL (headL s.data.toList)).data.toList = headL s.data.toList ∧ (strL (verOf s.data.toList)).data.toList = verOf s.data.toList) := ⟨rfl, rfl⟩
    obtain ⟨H, hH⟩ : ∃ H, strL (headL s.data.toList) = H := ⟨_, rfl⟩
    obtain ⟨V, hV⟩ : ∃ V, strL (verOf s.data.toList) = V := ⟨_, rfl⟩
    rw [hH, hV] at HH
    rw [hH] at hh40
    rw [hV] at hbv hlv hv40
    obtain ⟨L, hL⟩ : ∃ L : List ByteArray, (segs H.data.toList).map strL = L := ⟨_, rfl⟩
    have HL := Lib.hid hL
    have HPS : Hid (∀ (k : Nat) (p : ByteArray), L[k]? = some p → p.size ≤ 9000000000000000000) := by
      intro k p hp
      have hm := List.mem_of_getElem? hp
      rw [← hL] at hm
      obtain ⟨a, ha, rfl⟩ := List.mem_map.1 hm
      have := segs_len _ a ha
      rw [str_len] at this
      have h2 := str_len (strL a)
      rw [data_strL] at h2
      omega
    have hll : L.length ≤ 41 := by
      rw [← hL, List.length_map]
      have h := splitB_segs H
      have h2 := congrArg List.length h
      have h3 := Lib.splitB_all ⟨#[47]⟩ (by decide) 0 _ H rfl
      have h4 := Lib.countB_le ⟨#[47]⟩ (by decide) H.size H (Nat.le_refl _)
      rw [List.length_map] at h2
      omega
    have HHV : Hid (H = strL (headL s.data.toList) ∧ V = strL (verOf s.data.toList)) := ⟨hH.symm, hV.symm⟩
    have HNO : Hid (∀ (k : Nat) (p : ByteArray), L[k]? = some p → partL p.data.toList = false → nameOk s.data.toList = false) := by
      intro k p hp hb
      rw [HOK.out, ← HH.out.1]
      have : (segs H.data.toList).all partL = false := by
        rw [List.all_eq_false]
        refine ⟨p.data.toList, ?_, by simp [hb]⟩
        have := List.mem_of_getElem? hp
        rw [← HL.out] at this
        obtain ⟨l, hl, rfl⟩ := List.mem_map.1 this
        exact hl
      rw [this, Bool.false_and]
    have HYES : Hid ((∀ (k : Nat) (p : ByteArray), L[k]? = some p → partL p.data.toList = true) → nameOk s.data.toList = verL V.data.toList) := by
      intro h
      rw [HOK.out, ← HH.out.1, ← HH.out.2]
      have : (segs H.data.toList).all partL = true := by
        rw [List.all_eq_true]
        intro l hl
        have hm : strL l ∈ L := by rw [← HL.out]; exact List.mem_map_of_mem hl
        obtain ⟨k, hk, e⟩ := List.getElem_of_mem hm
        have := h k (strL l) (by rw [List.getElem?_eq_getElem hk, e])
        exact this
      rw [this, Bool.true_and]
    clear HOK hL h40
    obtain ⟨q, hq⟩ : ∃ q, toldL s.data.toList = q := ⟨_, rfl⟩
    rw [hq] at hbv hlv
    have HQ := Lib.hid hq
    have hm : ∀ w', Below w.heap.size w w' → MaxW w' := fun w' hb => HM.out.below hb
    go_enter Tryd.func24, Tryd.ntmps24
    cases q
    · have hlv' := Lib.hid (hlv rfl)
      clear hbv hlv
      go_wp2_with (first
        | (go_at_call 30; refine (cut_any _ _ (by omega) HM.out).mono ?_; rintro e wa ⟨rfl, hwa⟩; rw [hH, hq])
        | (go_at_call 25; refine (split47_any _ _ (by omega) (hm _ hwa)).mono ?_; rintro e wb ⟨rfl, rfl⟩; rw [HL.out])
        | go_in)
      have hst := strsIn_new wa L 9
      have hbw := hwa.alloc hwa.size (.cells (L.map Value.string).toArray 9)
      clear hwa hm HM hH hV hq HL
      generalize wa.alloc (.cells (L.map Value.string).toArray 9) = W1 at *
      generalize wa.heap.size = B at *
      have HST := Lib.hid hst
      clear hst
      go_loopw [2, 3, 22] (fun a b i wr => ∃ k : Nat, a = .string H ∧ b = .string V ∧ i = .int .i64 k ∧ k ≤ L.length ∧ Hid (∀ (j : Nat) (p : ByteArray), j < k → L[j]? = some p → partL p.data.toList = true) ∧ Below W1.heap.size W1 wr) (fun _ _ i _ => L.length - (intOf i).toNat)
      case atStart => exact ⟨0, rfl, by rw [hlv'.out], rfl, by omega, fun j p h => absurd h (by omega), Below.refl _ _⟩
      case round =>
        obtain ⟨k, rfl, rfl, rfl, hk, HR, hwr⟩ := hrel
        by_cases hlt : k < L.length
        · obtain ⟨b, o, c, e, p, hp, hc⟩ := (HST.out.below hwr).at_ hlt
          cases e
          rw [Nat.zero_add] at hc
          have hp40 : p.size ≤ 9000000000000000000 := HPS.out k p hp
          have HB : Hid (partL p.data.toList = false → nameOk s.data.toList = false) := HNO.out k p hp
          have HG : Hid (partL p.data.toList = true → ∀ (j : Nat) (q : ByteArray), j < k + 1 → L[j]? = some q → partL q.data.toList = true) := by
            intro h j q hj hq
            by_cases e : j = k
            · subst e; rw [hp] at hq; rw [← Option.some.inj hq]; exact h
            · exact HR.out j q (by omega) hq
          clear hp HR
          cases hb : partL p.data.toList
          · have hno := Lib.hid (HB.out hb)
            go_wp2_with (go_at_call 31; refine (part_any _ _ hp40).mono ?_; rintro e w' ⟨rfl, rfl⟩)
            go_ret3
            exact ⟨⟨#[]⟩, ⟨#[]⟩, by rw [hno.out]; first | done | rfl, by rw [hno.out]; simp, hbw.trans (hwr.mono hbw.size)⟩
          · have HG2 := Lib.hid (HG.out hb)
            go_wp2_with (go_at_call 31; refine (part_any _ _ hp40).mono ?_; rintro e w' ⟨rfl, rfl⟩)
            go_roundw
            case rel => exact ⟨k + 1, rfl, rfl, by go_num, by omega, HG2.out, hwr⟩
            case measure => simp [intOf]; omega
        · have hall : Hid (nameOk s.data.toList = verL V.data.toList) := HYES.out (fun j p hp => HR.out j p (by have := (List.getElem?_eq_some_iff.1 hp).1; omega) hp)
          clear HR
          go_wp2_with (go_at_call 32; refine (version_any _ _ (by omega)).mono ?_; rintro e w' ⟨rfl, rfl⟩)
          go_ret3
          exact ⟨H, V, by rw [hall.out]; first | done | rfl, fun _ => HHV.out, hbw.trans (hwr.mono hbw.size)⟩
    · have hbv' := hbv rfl
      clear hbv hlv
      go_wp2_with (first
        | (go_at_call 30; refine (cut_any _ _ (by omega) HM.out).mono ?_; rintro e wa ⟨rfl, hwa⟩; rw [hH, hbv', hq])
        | (go_at_call 25; refine (split47_any _ _ (by omega) (hm _ hwa)).mono ?_; rintro e wb ⟨rfl, rfl⟩; rw [HL.out])
        | go_in)
      have hst := strsIn_new wa L 9
      have hbw := hwa.alloc hwa.size (.cells (L.map Value.string).toArray 9)
      clear hwa hm HM hH hV hq HL
      generalize wa.alloc (.cells (L.map Value.string).toArray 9) = W1 at *
      generalize wa.heap.size = B at *
      have HST := Lib.hid hst
      clear hst
      go_loopw [2, 3, 22] (fun a b i wr => ∃ k : Nat, a = .string H ∧ b = .string V ∧ i = .int .i64 k ∧ k ≤ L.length ∧ Hid (∀ (j : Nat) (p : ByteArray), j < k → L[j]? = some p → partL p.data.toList = true) ∧ Below W1.heap.size W1 wr) (fun _ _ i _ => L.length - (intOf i).toNat)
      case atStart => exact ⟨0, rfl, rfl, rfl, by omega, fun j p h => absurd h (by omega), Below.refl _ _⟩
      case round =>
        obtain ⟨k, rfl, rfl, rfl, hk, HR, hwr⟩ := hrel
        by_cases hlt : k < L.length
        · obtain ⟨b, o, c, e, p, hp, hc⟩ := (HST.out.below hwr).at_ hlt
          cases e
          rw [Nat.zero_add] at hc
          have hp40 : p.size ≤ 9000000000000000000 := HPS.out k p hp
          have HB : Hid (partL p.data.toList = false → nameOk s.data.toList = false) := HNO.out k p hp
          have HG : Hid (partL p.data.toList = true → ∀ (j : Nat) (q : ByteArray), j < k + 1 → L[j]? = some q → partL q.data.toList = true) := by
            intro h j q hj hq
            by_cases e : j = k
            · subst e; rw [hp] at hq; rw [← Option.some.inj hq]; exact h
            · exact HR.out j q (by omega) hq
          clear hp HR
          cases hb : partL p.data.toList
          · have hno := Lib.hid (HB.out hb)
            go_wp2_with (go_at_call 31; refine (part_any _ _ hp40).mono ?_; rintro e w' ⟨rfl, rfl⟩)
            go_ret3
            exact ⟨⟨#[]⟩, ⟨#[]⟩, by rw [hno.out]; first | done | rfl, by rw [hno.out]; simp, hbw.trans (hwr.mono hbw.size)⟩
          · have HG2 := Lib.hid (HG.out hb)
            go_wp2_with (go_at_call 31; refine (part_any _ _ hp40).mono ?_; rintro e w' ⟨rfl, rfl⟩)
            go_roundw
            case rel => exact ⟨k + 1, rfl, rfl, by go_num, by omega, HG2.out, hwr⟩
            case measure => simp [intOf]; omega
        · have hall : Hid (nameOk s.data.toList = verL V.data.toList) := HYES.out (fun j p hp => HR.out j p (by have := (List.getElem?_eq_some_iff.1 hp).1; omega) hp)
          clear HR
          go_wp2_with (go_at_call 32; refine (version_any _ _ (by omega)).mono ?_; rintro e w' ⟨rfl, rfl⟩)
          go_ret3
          exact ⟨H, V, by rw [hall.out]; first | done | rfl, fun _ => HHV.out, hbw.trans (hwr.mono hbw.size)⟩
  · have hd40 : decide (40 < (s.size : Int)) = true := by simp; omega
    have hno : nameOk s.data.toList = false := by unfold nameOk; rw [decide_eq_false (by rw [str_len]; omega)]; rfl
    have HNO := Lib.hid hno
    clear hno
    go_enter Tryd.func24, Tryd.ntmps24
    go_wp2_with fail
    go_ret3
    exact ⟨⟨#[]⟩, ⟨#[]⟩, by rw [HNO.out]; first | done | rfl, by rw [HNO.out]; simp, Below.refl _ _⟩
end Go.Proofs.YtlkadlhncbgdbaaDoor
