/- Names: a name's parts, told anew; an answer of texts written over; what parts come to when put together. -/
import Derived.Test.YtlkadlhncbgdbaaDoorNamH
namespace Go.Proofs.YtlkadlhncbgdbaaDoor
open Go.ChangeShapes Go.WideShapes Go.ChangeAt Go.RowKit Go.Joins
set_option linter.unusedVariables false
set_option linter.unusedSimpArgs false

/-- A block whose first n cells hold texts, and may be written. -/
def StrBlk (w : World) (B n : Nat) : Prop := ∀ i, i < n → ∃ s : ByteArray, w.cell? ⟨B, i, none⟩ = some (.string s) ∧ w.frozen? ⟨B, i, none⟩ = false
theorem StrBlk.next {w : World} {B n : Nat} (h : StrBlk w B n) (k : Nat) (s : ByteArray) : StrBlk (w.setCell ⟨B, k, none⟩ (.string s)) B n := by
  intro i hi
  obtain ⟨t, h1, h2⟩ := h i hi
  by_cases e : k = i
  · subst e
    exact ⟨s, World.cell?_setCell_same' _ _ _ (by rw [h1]; rfl), by rw [World.frozen?_setCell]; exact h2⟩
  · exact ⟨t, by rw [World.cell?_setCell_other _ _ _ _ (by simp [e])]; exact h1, by rw [World.frozen?_setCell]; exact h2⟩
theorem StrBlk.below {w w' : World} {B n : Nat} (h : StrBlk w B n) (hb : Below w.heap.size w w') : StrBlk w' B n := by
  intro i hi
  obtain ⟨t, h1, h2⟩ := h i hi
  have hlt : B < w.heap.size := cell_block h1
  refine ⟨t, by rw [hb.cell (p := ⟨B, i, none⟩) hlt]; exact h1, ?_⟩
  have e := hb.block B hlt
  unfold World.frozen? at *
  rw [e]; exact h2
theorem strBlk_new (w : World) (L : List ByteArray) (T : TypeId) : StrBlk (w.alloc (.cells (L.map Value.string).toArray T)) w.heap.size L.length := by
  intro i hi
  refine ⟨L[i], ?_, ?_⟩
  · rw [cell_of_row _ _ _ _ _ _ (heap_alloc_new w _)]
    simp [hi]
  · unfold World.frozen?
    rw [heap_alloc_new]
    simp
/-- A slice of texts that may be written over, none of them in a block below B. -/
def Spoils (B : Nat) (w : World) (v : Value) : Prop := ∃ A n c, v = .slice A n c ∧ (0 < n → ∃ b, A = some ⟨b, 0, none⟩ ∧ B ≤ b ∧ StrBlk w b n)
theorem Spoils.below {B : Nat} {w w' : World} {v : Value} (h : Spoils B w v) (hb : Below w.heap.size w w') : Spoils B w' v := by
  obtain ⟨A, n, c, rfl, h2⟩ := h
  refine ⟨A, n, c, rfl, fun hn => ?_⟩
  obtain ⟨b, e, hB, hs⟩ := h2 hn
  exact ⟨b, e, hB, hs.below hb⟩

set_option maxRecDepth 100000 in
set_option maxHeartbeats 1000000 in
theorem strings_any (B : Nat) (v : Value) (w : World) (h : Spoils B w v) (hlen : ∀ A n c, v = .slice A n c → n ≤ 1000000) :
    Calls Tryd.prog 19 #[v] w fun e w' => e = .returned (.tuple #[]) ∧ Below B w w' := by
  obtain ⟨A, n, c, rfl, h2⟩ := h
  have hn := hlen A n c rfl
  clear hlen
  by_cases h0 : 0 < n
  · obtain ⟨b, rfl, hB, hs⟩ := h2 h0
    have HS0 := Lib.hid hs
    clear hs h2
    go_enter Tryd.func19, Tryd.ntmps19
    go_wp2_with fail
    go_loopw [2] (fun i wr => ∃ k : Nat, i = .int .i64 k ∧ k ≤ n ∧ Hid (StrBlk wr b n) ∧ Hid (Below B w wr)) (fun i _ => n - (intOf i).toNat)
    case atStart => exact ⟨0, rfl, by omega, HS0.out, Below.refl _ _⟩
    case round =>
      clear HS0
      obtain ⟨k, rfl, hk, HS, HB⟩ := hrel
      by_cases hlt : k < n
      · obtain ⟨t, c1, c2⟩ := HS.out k hlt
        have HS1 := Lib.hid (HS.out.next k ⟨#[115, 112, 111, 105, 108, 116]⟩)
        have HB1 := Lib.hid (HB.out.setCell (p := ⟨b, k, none⟩) hB (.string ⟨#[115, 112, 111, 105, 108, 116]⟩))
        have i0 : (0 : Int) ≤ (k : Int) := by omega
        have i1 : (k : Int) < (n : Int) := by omega
        go_wp2_with fail
        go_roundw
        case rel => exact ⟨k + 1, by go_num, by omega, HS1.out, HB1.out⟩
        case measure => simp [intOf]; omega
      · go_wp2_with fail
        first
          | (refine bodyPost_ret (results_none rfl _ _ _) rfl ?_; exact ⟨rfl, HB.out⟩)
          | (go_end0; exact ⟨rfl, HB.out⟩)
  · obtain rfl : n = 0 := by omega
    clear h2
    go_enter Tryd.func19, Tryd.ntmps19
    go_wp2_with fail
    go_loopw [2] (fun i wr => i = .int .i64 0 ∧ Hid (Below B w wr)) (fun i _ => 0)
    case atStart => exact ⟨rfl, Below.refl _ _⟩
    case round =>
      obtain ⟨rfl, HB⟩ := hrel
      go_wp2_with fail
      first
        | (refine bodyPost_ret (results_none rfl _ _ _) rfl ?_; exact ⟨rfl, HB.out⟩)
        | (go_end0; exact ⟨rfl, HB.out⟩)

theorem segs_count (l : List UInt8) : (segs l).length ≤ l.length + 1 := by
  induction l with
  | nil => simp [segs]
  | cons c r ih =>
    rw [segs]
    split
    · simp; omega
    · cases hs : segs r with
      | nil => simp
      | cons a t => rw [hs] at ih; simp at ih ⊢; omega
theorem headL_len {l : List UInt8} (h : l.length ≤ 40) : (headL l).length ≤ 40 := by unfold headL; rw [List.length_take]; omega
theorem namePs_len (s : ByteArray) : (namePs s).length ≤ 41 := by
  unfold namePs
  split
  · rename_i h
    rw [List.length_map]
    have := segs_count (headL s.data.toList)
    have := headL_len (nameOk_len h)
    omega
  · simp
theorem namePs_size (s : ByteArray) : ∀ p ∈ namePs s, p.size ≤ 40 := by
  intro p hp
  unfold namePs at hp
  split at hp
  · rename_i h
    obtain ⟨a, ha, rfl⟩ := List.mem_map.1 hp
    rw [strL_size]
    have := segs_len _ a ha
    have := headL_len (nameOk_len h)
    omega
  · simp at hp

set_option maxRecDepth 100000 in
set_option maxHeartbeats 1000000 in
theorem parts_any (s : ByteArray) (w : World) (hs : s.size ≤ 1000000) (hm : MaxW w) :
    Calls Tryd.prog 16 #[.string s] w fun e w' => ∃ v, e = .returned (.tuple #[v, .int .i64 (nameE s)]) ∧ StrsIn w' v (namePs s) ∧ Spoils w.heap.size w' v ∧ Below w.heap.size w w' := by
  have HM : Hid (∀ w', Below w.heap.size w w' → MaxW w') := fun w' hb => hm.below hb
  have hm0 := Lib.hid hm
  clear hm
  have haz := nameA_size s
  obtain ⟨q, hq⟩ : ∃ q, nameOk s.data.toList = q := ⟨_, rfl⟩
  have HE : Hid (nameE s = if q then 0 else 7) := by rw [← hq]; rfl
  have HP : Hid (namePs s = if q then (segs (nameA s).data.toList).map strL else []) := by
    rw [← hq]
    unfold namePs nameA
    cases nameOk s.data.toList <;> rfl
  clear hq
  obtain ⟨L, hL⟩ : ∃ L : List ByteArray, (segs (nameA s).data.toList).map strL = L := ⟨_, rfl⟩
  rw [hL] at HP
  cases q
  · have he' : nameE s = 7 := HE.out
    go_enter Tryd.func16, Tryd.ntmps16
    go_wp2_with (go_at_call 15; refine (nameSplit_any _ _ hs hm0.out).mono ?_; rintro e w' ⟨rfl, hb⟩; rw [he'])
    go_ret2
    exact ⟨.slice none 0 0, by rw [he']; rfl, by rw [HP.out]; exact StrsIn.nil _ _ _, ⟨none, 0, 0, rfl, fun h => absurd h (by omega)⟩, hb⟩
  · have he' : nameE s = 0 := HE.out
    go_enter Tryd.func16, Tryd.ntmps16
    go_wp2_with (first
      | (go_at_call 15; refine (nameSplit_any _ _ hs hm0.out).mono ?_; rintro e w' ⟨rfl, hb⟩; rw [he'])
      | (go_at_call 25; refine (split47_any _ _ (by omega) (HM.out _ hb)).mono ?_; rintro e wb ⟨rfl, rfl⟩; rw [hL]))
    go_ret2
    exact ⟨.slice (some ⟨w'.heap.size, 0, none⟩) L.length L.length, by rw [he']; rfl, by rw [HP.out]; exact strsIn_new _ _ _, ⟨_, _, _, rfl, fun _ => ⟨_, rfl, hb.size, strBlk_new _ _ _⟩⟩, hb.alloc hb.size _⟩

/-- Parts put together, so far. -/
def headTo (P : List ByteArray) (k : Nat) : ByteArray := strL (joined ((P.take k).map (·.data.toList)))
theorem joined_snoc : ∀ (l : List (List UInt8)) (a : List UInt8), l ≠ [] → joined (l ++ [a]) = joined l ++ 47 :: a := by
  intro l
  induction l with
  | nil => intro a h; exact absurd rfl h
  | cons b t ih =>
    intro a _
    cases t with
    | nil => simp [joined]
    | cons c t => simp only [List.cons_append, joined] at ih ⊢; rw [ih a (by simp)]; simp
theorem strL_app (a b : List UInt8) : strL (a ++ b) = strL a ++ strL b := by
  apply ByteArray.ext
  simp [strL, ByteArray.data_append]
theorem headTo_zero (P : List ByteArray) : headTo P 0 = ⟨#[]⟩ := rfl
theorem headTo_one {P : List ByteArray} {p : ByteArray} (h : P[0]? = some p) : headTo P 1 = headTo P 0 ++ p := by
  cases P with
  | nil => simp at h
  | cons a t =>
    simp at h
    subst h
    unfold headTo
    have e1 : joined (((a :: t).take 1).map (·.data.toList)) = a.data.toList := rfl
    have e0 : joined (((a :: t).take 0).map (·.data.toList)) = [] := rfl
    rw [e1, e0, strL_data]
    apply ByteArray.ext
    simp [strL, ByteArray.data_append]
theorem headTo_next {P : List ByteArray} {p : ByteArray} {k : Nat} (hk : 0 < k) (h : P[k]? = some p) : headTo P (k + 1) = headTo P k ++ ⟨#[47]⟩ ++ p := by
  obtain ⟨hlt, rfl⟩ := List.getElem?_eq_some_iff.1 h
  have hne : (P.take k).map (·.data.toList) ≠ [] := by
    intro e
    have h2 := congrArg List.length e
    rw [List.length_map, List.length_take, List.length_nil] at h2
    have : min k P.length = k := Nat.min_eq_left (by omega)
    omega
  unfold headTo
  rw [List.take_succ_eq_append_getElem hlt, List.map_append, List.map_cons, List.map_nil, joined_snoc _ _ hne]
  have e : joined ((P.take k).map (·.data.toList)) ++ 47 :: P[k].data.toList = joined ((P.take k).map (·.data.toList)) ++ ([47] ++ P[k].data.toList) := rfl
  rw [e, ← List.append_assoc, strL_app, strL_app, strL_data]
  rfl
theorem headTo_all (s : ByteArray) : headTo (namePs s) (namePs s).length = nameA s := by
  unfold headTo
  rw [List.take_length]
  unfold namePs nameA
  split
  · rw [List.map_map]
    have : ((segs (headL s.data.toList)).map ((·.data.toList) ∘ strL)) = segs (headL s.data.toList) := by
      conv => rhs; rw [← List.map_id (segs (headL s.data.toList))]
      exact List.map_congr_left fun x _ => rfl
    rw [this, joined_segs]
  · rfl
end Go.Proofs.YtlkadlhncbgdbaaDoor
