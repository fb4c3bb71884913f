/- Patterns: the page's own matching, by a table: plainly, and the table in memory. -/
import Derived.Test.YtlkadlhncbgdbaaDoorNamT
import Derived.Deep.AppendLies
import Derived.Laws.AppendOwn
namespace Go.Proofs.YtlkadlhncbgdbaaDoor
open Go.ChangeShapes Go.WideShapes Go.ChangeAt Go.RowKit Go.Joins
set_option linter.unusedVariables false
set_option linter.unusedSimpArgs false

/-- Whether a pattern's end matches a text's end. -/
def TF (p s : ByteArray) (i k : Nat) : Bool := M (parse (p.data.toList.drop i)) (s.data.toList.drop k)
theorem tf_end (p s : ByteArray) (k : Nat) (hk : k ≤ s.size) : TF p s p.size k = decide (k = s.size) := by
  unfold TF
  rw [List.drop_of_length_le (by rw [str_len]; omega), parse_nil]
  show (s.data.toList.drop k).isEmpty = _
  rw [Bool.eq_iff_iff, List.isEmpty_iff, List.drop_eq_nil_iff, str_len, decide_eq_true_iff]
  omega
theorem tf_ch {p s : ByteArray} {i : Nat} (hi : i < p.size) (hc : p[i] ≠ 42) {k : Nat} (hk : k < s.size) : TF p s i k = ((s[k] == p[i]) && TF p s (i + 1) (k + 1)) := by
  unfold TF
  rw [drop_at hi, parse_ch hc, drop_at hk]
  rfl
theorem tf_ch_end {p s : ByteArray} {i : Nat} (hi : i < p.size) (hc : p[i] ≠ 42) : TF p s i s.size = false := by
  unfold TF
  rw [drop_at hi, parse_ch hc, List.drop_of_length_le (l := s.data.toList) (by rw [str_len]; exact Nat.le_refl _)]
  rfl
theorem tf_many {p s : ByteArray} {i j : Nat} {ok : UInt8 → Bool} (h : parse (p.data.toList.drop i) = .many ok :: parse (p.data.toList.drop j)) {k : Nat} (hk : k < s.size) : TF p s i k = (TF p s j k || (ok s[k] && TF p s i (k + 1))) := by
  unfold TF
  rw [h, drop_at hk]
  rfl
theorem tf_many_end {p s : ByteArray} {i j : Nat} {ok : UInt8 → Bool} (h : parse (p.data.toList.drop i) = .many ok :: parse (p.data.toList.drop j)) : TF p s i s.size = TF p s j s.size := by
  unfold TF
  rw [h, List.drop_of_length_le (l := s.data.toList) (by rw [str_len]; exact Nat.le_refl _)]
  rfl
theorem parse_any_at {p : ByteArray} {i : Nat} (hi : i + 1 < p.size) (h1 : p[i] = 42) (h2 : p[i + 1] = 42) : parse (p.data.toList.drop i) = .many okAll :: parse (p.data.toList.drop (i + 2)) := by
  rw [drop_at (by omega : i < p.size), drop_at hi, h1, h2, parse_all]
theorem parse_one_at {p : ByteArray} {i : Nat} (hi : i < p.size) (h1 : p[i] = 42) (h2 : ∀ h : i + 1 < p.size, p[i + 1]'h ≠ 42) : parse (p.data.toList.drop i) = .many okIn :: parse (p.data.toList.drop (i + 1)) := by
  rw [drop_at hi, h1, parse_one]
  intro h
  rw [List.head?_drop] at h
  have hlt : i + 1 < p.size := by
    have := (List.getElem?_eq_some_iff.1 h).1
    rwa [str_len] at this
  rw [str_get hlt] at h
  exact h2 hlt (Option.some.inj h)

/-- A row's value. -/
def rowV (b n : Nat) : Value := .slice (some ⟨b, 0, none⟩) (n + 1) (n + 1)
theorem boolBlk_grown {w w' : World} {B n : Nat} {f : Nat → Bool} {row : Option Nat} (h : BoolBlk w B f n) (hg : w.grownBy w' row) (hr : some B ≠ row) : BoolBlk w' B f n := by
  intro i hi
  obtain ⟨h1, h2⟩ := h i hi
  have e := hg.block B (cell_block h1) hr
  exact ⟨by rw [World.cell?_of_block (a := ⟨B, i, none⟩) e]; exact h1, by rw [World.frozen?_of_block (a := ⟨B, i, none⟩) e]; exact h2⟩
theorem boolBlk_below {w w' : World} {B n : Nat} {f : Nat → Bool} (h : BoolBlk w B f n) (hb : Below w.heap.size w w') : BoolBlk w' B f n := by
  intro i hi
  obtain ⟨h1, h2⟩ := h i hi
  have e := hb.block B (cell_block h1)
  exact ⟨by rw [World.cell?_of_block (a := ⟨B, i, none⟩) e]; exact h1, by rw [World.frozen?_of_block (a := ⟨B, i, none⟩) e]; exact h2⟩
theorem boolBlk_other {w : World} {B C n k : Nat} {f : Nat → Bool} {v : Value} (h : BoolBlk w B f n) (hne : C ≠ B) : BoolBlk (w.setCell ⟨C, k, none⟩ v) B f n := by
  intro i hi
  obtain ⟨h1, h2⟩ := h i hi
  exact ⟨by rw [World.cell?_setCell_other _ _ _ _ (by simp [hne])]; exact h1, by rw [World.frozen?_setCell]; exact h2⟩
/-- Rows that lie apart. -/
structure Rows (w : World) (B0 : Nat) (β : Nat → Nat) (m n : Nat) (F : Nat → Nat → Bool) : Prop where
  blk : ∀ i, i < m → BoolBlk w (β i) (F i) n
  low : ∀ i, i < m → B0 ≤ β i
  apart : ∀ i j, i < m → j < m → i ≠ j → β i ≠ β j
/-- The whole table. -/
structure Tab (w : World) (B0 g : Nat) (β : Nat → Nat) (m n : Nat) (F : Nat → Nat → Bool) : Prop where
  rows : Rows w B0 β m n F
  cell : ∀ i, i < m → w.cell? ⟨g, i, none⟩ = some (rowV (β i) n)
  off : ∀ i, i < m → β i ≠ g
theorem Tab.set {w : World} {B0 g m n : Nat} {β : Nat → Nat} {F G : Nat → Nat → Bool} (h : Tab w B0 g β m n F) {i k : Nat} (hi : i < m) (v : Bool) (hG : G i k = v) (ho : ∀ a b, ¬ (a = i ∧ b = k) → G a b = F a b) : Tab (w.setCell ⟨β i, k, none⟩ (.bool v)) B0 g β m n G := by
  refine ⟨⟨fun a ha => ?_, h.rows.low, h.rows.apart⟩, fun a ha => ?_, h.off⟩
  · by_cases e : a = i
    · subst e
      exact (h.rows.blk a ha).next v hG (fun b hb => ho a b (fun x => hb x.2))
    · exact (boolBlk_other (h.rows.blk a ha) (h.rows.apart i a hi ha (fun x => e x.symm))).same (fun b _ => ho a b (fun x => e x.1))
  · rw [World.cell?_setCell_other _ _ _ _ (by simp [h.off i hi])]
    exact h.cell a ha
theorem Tab.drew {w : World} {B0 g m n : Nat} {β : Nat → Nat} {F : Nat → Nat → Bool} (h : Tab w B0 g β m n F) : Tab w.drew B0 g β m n F := ⟨⟨fun i hi => (h.rows.blk i hi).drew, h.rows.low, h.rows.apart⟩, h.cell, h.off⟩

theorem infoRow : (Tryd.prog.info? 49).map (fun i => (i.zero, i.size, i.bytes)) = some (some (.slice none 0 0), 1, 24) := by kernel_rfl
/-- The table while row i is filled, from its end down to place y. -/
def St (w : World) (B0 g : Nat) (β : Nat → Nat) (p s : ByteArray) (i : Nat) (y : Int) : Prop :=
  ∃ F : Nat → Nat → Bool, Tab w B0 g β (p.size + 1) s.size F ∧ (∀ a b : Nat, i < a → a ≤ p.size → b ≤ s.size → F a b = TF p s a b) ∧ (∀ b : Nat, y < b → b ≤ s.size → F i b = TF p s i b)
/-- The table while all rows behind z are filled. -/
def So (w : World) (B0 g : Nat) (β : Nat → Nat) (p s : ByteArray) (z : Int) : Prop :=
  ∃ F : Nat → Nat → Bool, Tab w B0 g β (p.size + 1) s.size F ∧ (∀ a b : Nat, z < a → a ≤ p.size → b ≤ s.size → F a b = TF p s a b)
theorem So.begin {w : World} {B0 g i : Nat} {β : Nat → Nat} {p s : ByteArray} (h : So w B0 g β p s (i : Int)) : St w B0 g β p s i (s.size : Int) := by
  obtain ⟨F, h1, h2⟩ := h
  exact ⟨F, h1, fun a b ha => h2 a b (by omega), fun b hb hb2 => absurd hb (by omega)⟩
theorem St.done {w : World} {B0 g i : Nat} {β : Nat → Nat} {p s : ByteArray} {y : Int} (h : St w B0 g β p s i y) (hy : y < 0) : So w B0 g β p s ((i : Int) - 1) := by
  obtain ⟨F, h1, h2, h3⟩ := h
  refine ⟨F, h1, fun a b ha ha2 hb => ?_⟩
  by_cases e : a = i
  · subst e; exact h3 b (by omega) hb
  · exact h2 a b (by omega) ha2 hb
theorem St.row {w : World} {B0 g i : Nat} {β : Nat → Nat} {p s : ByteArray} {y : Int} (h : St w B0 g β p s i y) {a : Nat} (ha : a ≤ p.size) : w.cell? ⟨g, a, none⟩ = some (.slice (some ⟨β a, 0, none⟩) (s.size + 1) (s.size + 1)) := by
  obtain ⟨F, h1, _⟩ := h
  exact h1.cell a (by omega)
theorem St.at_ {w : World} {B0 g i : Nat} {β : Nat → Nat} {p s : ByteArray} {y : Int} (h : St w B0 g β p s i y) {a b : Nat} (hi : i < a) (ha : a ≤ p.size) (hb : b ≤ s.size) : w.cell? ⟨β a, b, none⟩ = some (.bool (TF p s a b)) := by
  obtain ⟨F, h1, h2, _⟩ := h
  rw [((h1.rows.blk a (by omega)) b hb).1, h2 a b hi ha hb]
theorem St.behind {w : World} {B0 g i : Nat} {β : Nat → Nat} {p s : ByteArray} {y : Int} (h : St w B0 g β p s i y) (hi : i ≤ p.size) {b : Nat} (hy : y < b) (hb : b ≤ s.size) : w.cell? ⟨β i, b, none⟩ = some (.bool (TF p s i b)) := by
  obtain ⟨F, h1, _, h3⟩ := h
  rw [((h1.rows.blk i (by omega)) b hb).1, h3 b hy hb]
theorem St.here {w : World} {B0 g i : Nat} {β : Nat → Nat} {p s : ByteArray} {y : Int} (h : St w B0 g β p s i y) (hi : i ≤ p.size) {b : Nat} (hb : b ≤ s.size) : ∃ v : Bool, w.cell? ⟨β i, b, none⟩ = some (.bool v) ∧ w.frozen? ⟨β i, b, none⟩ = false := by
  obtain ⟨F, h1, _⟩ := h
  exact ⟨_, (h1.rows.blk i (by omega)) b hb⟩
theorem St.step {w : World} {B0 g i j : Nat} {β : Nat → Nat} {p s : ByteArray} (h : St w B0 g β p s i (j : Int)) (hi : i ≤ p.size) (hj : j ≤ s.size) (v : Bool) (hv : v = TF p s i j) : St (w.setCell ⟨β i, j, none⟩ (.bool v)).drew B0 g β p s i ((j : Int) - 1) := by
  obtain ⟨F, h1, h2, h3⟩ := h
  refine ⟨fun a b => if a = i ∧ b = j then v else F a b, (h1.set (by omega) v (by simp) (fun a b hab => if_neg hab)).drew, fun a b ha ha2 hb => ?_, fun b hb hb2 => ?_⟩
  · show (if a = i ∧ b = j then v else F a b) = _
    rw [if_neg (by omega)]; exact h2 a b ha ha2 hb
  · show (if i = i ∧ b = j then v else F i b) = _
    by_cases e : b = j
    · subst e; rw [if_pos ⟨rfl, rfl⟩]; exact hv
    · rw [if_neg (by omega)]; exact h3 b (by omega) hb2
theorem St.low {w : World} {B0 g i : Nat} {β : Nat → Nat} {p s : ByteArray} {y : Int} (h : St w B0 g β p s i y) (hi : i ≤ p.size) : B0 ≤ β i := by
  obtain ⟨F, h1, _⟩ := h
  exact h1.rows.low i (by omega)

set_option maxRecDepth 100000 in
set_option maxHeartbeats 4000000 in
theorem refGlob_any (p s : ByteArray) (w : World) (hp : p.size ≤ 40) (hs : s.size ≤ 40) :
    Calls Tryd.prog 21 #[.string p, .string s] w fun e w' => e = .returned (.bool (TF p s 0 0)) ∧ Below w.heap.size w w' := by
  obtain ⟨i0, hi, hz0, hz1, hz2⟩ := info_parts infoRow
  have hmk := hmkB (n := s.size) (by omega)
  go_enter Tryd.func21, Tryd.ntmps21
  go_wp2_with fail
  go_loopw [5, 6] (fun v i wr => ∃ (k : Nat) (β : Nat → Nat), i = .int .i64 k ∧ k ≤ p.size + 1 ∧ wr.ownsRow w.heap.size 49 1 v k ((List.range k).map fun i => rowV (β i) s.size) ∧ Hid (Rows wr w.heap.size β k s.size (fun _ _ => false)) ∧ Hid (∀ i, i < k → some (β i) ≠ v.ownBlock) ∧ Below w.heap.size w wr) (fun _ i _ => p.size + 1 - (intOf i).toNat)
  case atStart => exact ⟨0, fun _ => 0, rfl, by omega, World.ownsRow_nil _ _ _ _, ⟨fun i h => absurd h (by omega), fun i h => absurd h (by omega), fun i j h => absurd h (by omega)⟩, fun i h => absurd h (by omega), Below.refl _ _⟩
  case round =>
    obtain ⟨k, β, rfl, hk, hown, HR, HO, hwr⟩ := hrel
    by_cases hle : k ≤ p.size
    · go_wp2_with (first
        | (at_builtin; refine wpList_append_lies _ rfl _ _ 53 rfl w.heap.size 49 i0 (.slice none 0 0) 1 24 Tryd.underlying53 hi hz0 hz1 hz2 rfl (by decide) _ _ _ rfl ((hown.alloc _).alloc _) ⟨wr.heap.size + 1, 0, none⟩ 1 1 [rowV wr.heap.size s.size] rfl rfl ?c1 ?c2 ?c3 ?c4 ?c5 ?c6 (wr.heap.size + 2) ?c7 ?_)
        | go_in)
      case c1 =>
        have h := cell_one_new (wr.alloc (.cells (Array.replicate (s.size + 1) (.bool false)) 4)) (rowV wr.heap.size s.size) 49
        rw [show (wr.alloc (.cells (Array.replicate (s.size + 1) (.bool false)) 4)).heap.size = wr.heap.size + 1 by simp] at h
        exact h
      case c2 => intro u hu; simp at hu; subst hu; rfl
      case c3 => omega
      case c4 => unfold maxLen; omega
      case c5 => omega
      case c6 => have := hwr.size; simp; omega
      case c7 => simp
      intro g cap w1 hown' hgrow hat hltg
      have HB1 : Hid (Below w.heap.size w w1) := (((hwr.alloc hwr.size _).alloc (by have := hwr.size; simp; omega) _)).grown hgrow (by have := hwr.size; simp; omega) (fun k hk => (hown.lt k hk).1)
      obtain ⟨β', hβ⟩ : ∃ β' : Nat → Nat, β' = fun i => if i = k then wr.heap.size else β i := ⟨_, rfl⟩
      have hk' : β' k = wr.heap.size := by rw [hβ]; simp
      have ho' : ∀ i, i < k → β' i = β i := fun i hi => by rw [hβ]; simp; omega
      have hob : ∀ b, u5.ownBlock = some b → b < wr.heap.size := fun b hb => (hown.lt b hb).2
      have hlow : ∀ i, i < k → β i < wr.heap.size := fun i hi => cell_block ((HR.out.blk i hi) 0 (Nat.zero_le _)).1
      have HL : Hid ((List.range k).map (fun i => rowV (β i) s.size) ++ [rowV wr.heap.size s.size] = (List.range (k + 1)).map (fun i => rowV (β' i) s.size)) := by
        rw [Hid, List.range_succ, List.map_append, List.map_cons, List.map_nil, hk']
        congr 1
        apply List.map_congr_left
        intro i hi
        rw [ho' i (List.mem_range.1 hi)]
      have HR1 : Hid (Rows w1 w.heap.size β' (k + 1) s.size (fun _ _ => false)) := by
        refine ⟨fun i hi => ?_, fun i hi => ?_, fun i j hi hj hne => ?_⟩
        · by_cases e : i = k
          · subst e
            rw [hk']
            refine boolBlk_grown ?_ hgrow (fun e => by have := hob _ e.symm; omega)
            exact boolBlk_below (boolBlk_new wr s.size 4) ((Below.refl _ _).alloc (Nat.le_refl _) _)
          · rw [ho' i (by omega)]
            refine boolBlk_grown ?_ hgrow (HO.out i (by omega))
            refine boolBlk_below (HR.out.blk i (by omega)) ?_
            exact ((Below.refl _ _).alloc (Nat.le_refl _) _).alloc (by simp) _
        · by_cases e : i = k
          · subst e; rw [hk']; exact hwr.size
          · rw [ho' i (by omega)]; exact HR.out.low i (by omega)
        · by_cases e : i = k
          · subst e
            rw [hk', ho' j (by omega)]
            have := hlow j (by omega)
            omega
          · by_cases e2 : j = k
            · subst e2
              rw [hk', ho' i (by omega)]
              have := hlow i (by omega)
              omega
            · rw [ho' i (by omega), ho' j (by omega)]
              exact HR.out.apart i j (by omega) (by omega) hne
      have HO1 : Hid (∀ i, i < k + 1 → some (β' i) ≠ (Value.slice (some ⟨g, 0, none⟩) (k + 1) cap).ownBlock) := by
        intro i hi e
        have e2 : β' i = g := by simpa [Value.ownBlock] using e
        have hlt : β' i ≤ wr.heap.size := by
          by_cases e : i = k
          · subst e; rw [hk']; exact Nat.le_refl _
          · rw [ho' i (by omega)]; exact Nat.le_of_lt (hlow i (by omega))
        rcases hat with h | h
        · by_cases e3 : i = k
          · subst e3
            have := hob _ h
            rw [hk'] at e2
            omega
          · rw [ho' i (by omega)] at e2
            exact HO.out i (by omega) (by rw [e2, h])
        · omega
      clear hβ hk' ho' hob hlow HR HO hown hgrow hat hltg hwr
      go_wp2_with fail
      go_roundw
      case rel => exact ⟨k + 1, β', by go_num, by omega, by rw [← HL.out]; exact hown', HR1, HO1, HB1.out⟩
      case measure => simp [intOf]; omega
    · obtain rfl : k = p.size + 1 := by omega
      rcases hown.2 with ⟨_, h0⟩ | ⟨g, cap, cur, rfl, hg0, hheap, hcap, hmax, hsz, htake⟩
      · omega
      have HT0 : Hid (Tab wr w.heap.size g β (p.size + 1) s.size (fun _ _ => false)) := by
        refine ⟨HR.out, fun i hi => ?_, fun i hi e => HO.out i hi (by rw [e]; rfl)⟩
        obtain ⟨b, o, c, e, hlt, hc⟩ := (RowIs.of_own hown).at_ hi
        cases e
        obtain ⟨u, h1, h2⟩ := hc 0 (by omega)
        simp [hi] at h1
        simp at h2
        rw [h2, ← h1]
      clear hown hg0 hheap hcap hmax hsz htake HR HO hle hk hmk
      have hm1 : wr.cell? ⟨g, p.size, none⟩ = some (.slice (some ⟨β p.size, 0, none⟩) (s.size + 1) (s.size + 1)) := HT0.out.cell p.size (by omega)
      obtain ⟨c1, c2⟩ := (HT0.out.rows.blk p.size (by omega)) s.size (Nat.le_refl _)
      have HS0 : Hid (So (wr.setCell ⟨β p.size, s.size, none⟩ (.bool true)) w.heap.size g β p s ((p.size : Int) - 1)) := by
        refine ⟨fun a b => decide (a = p.size ∧ b = s.size), HT0.out.set (by omega) true (by simp) (fun a b hab => by simp [hab]), fun a b ha ha2 hb => ?_⟩
        obtain rfl : a = p.size := by omega
        rw [tf_end p s b hb]
        simp
      have HB0 := Lib.hid (hwr.setCell (p := ⟨β p.size, s.size, none⟩) (HT0.out.rows.low p.size (by omega)) (.bool true))
      have n1 : (p.size : Int) < ((p.size + 1 : Nat) : Int) := by omega
      have n2 : (s.size : Int) < ((s.size + 1 : Nat) : Int) := by omega
      clear HT0 hwr
      go_wp2_with fail
      go_loopw [7] (fun v wx => ∃ z : Int, v = .int .i64 z ∧ -1 ≤ z ∧ z < p.size ∧ Hid (So wx w.heap.size g β p s z) ∧ Hid (Below w.heap.size w wx)) (fun v _ => (intOf v + 1).toNat)
      case atStart => exact ⟨(p.size : Int) - 1, by go_num, by omega, by omega, HS0, HB0⟩
      case round =>
        clear HS0 HB0 hm1 c1 c2 n1 n2
        obtain ⟨z, rfl, hz0, hz1, HSO, HB⟩ := hrel
        by_cases hz : 0 ≤ z
        · obtain ⟨i, rfl⟩ : ∃ i : Nat, z = i := ⟨z.toNat, by omega⟩
          have hip1 : i < p.size := by omega
          have hip : i ≤ p.size := by omega
          have p0 : (0 : Int) ≤ (i : Int) := by omega
          have p1 : (i : Int) < (p.size : Int) := by omega
          have e42 : ((p[i].toNat : Int) == 42) = (p[i] == 42) := by
            rw [Bool.eq_iff_iff]
            simp only [beq_iff_eq]
            exact ⟨fun h => UInt8.toNat_inj.1 (by show _ = 42; omega), fun h => by rw [h]; rfl⟩
          have f42 : ((p[i].toNat : Int) != 42) = !(p[i] == 42) := by rw [← e42]; rfl
          cases h42 : (p[i] == 42)
          · have hc42 : p[i] ≠ 42 := fun e => by rw [e] at h42; cases h42
            rw [h42] at e42 f42
            have e42' : ((p[i].toNat : Int) == 42) = false := e42
            have f42' : ((p[i].toNat : Int) != 42) = true := f42
            clear e42 f42
            go_wp2_with fail
            go_loopw [9] (fun v wx => ∃ y : Int, v = .int .i64 y ∧ -1 ≤ y ∧ y ≤ s.size ∧ Hid (St wx w.heap.size g β p s i y) ∧ Hid (Below w.heap.size w wx)) (fun v _ => (intOf v + 1).toNat)
            case atStart => exact ⟨s.size, rfl, by omega, by omega, HSO.out.begin, HB⟩
            case round =>
              clear HSO HB
              obtain ⟨y, rfl, hy0, hy1, HST, HB⟩ := hrel
              by_cases hy : 0 ≤ y
              · obtain ⟨j, rfl⟩ : ∃ j : Nat, y = j := ⟨y.toNat, by omega⟩
                have hjn : j ≤ s.size := by omega
                have hlw := HST.out.low hip
                have r0 := HST.out.row (a := i) hip
                obtain ⟨v0, f0, f1⟩ := HST.out.here hip hjn
                have q0 : (0 : Int) ≤ (j : Int) := by omega
                have q1 : (j : Int) < ((s.size + 1 : Nat) : Int) := by omega
                have q2 : (i : Int) < ((p.size + 1 : Nat) : Int) := by omega
                have q3 : (0 : Int) ≤ (i : Int) := by omega
                by_cases hjs : j < s.size
                · have r1 := HST.out.row (a := i + 1) (by omega)
                  have x1 := HST.out.at_ (a := i + 1) (b := j + 1) (by omega) (by omega) (by omega)
                  have htf := Lib.hid (tf_ch hip1 hc42 hjs)
                  have q4 : (0 : Int) ≤ (j : Int) + 1 := by omega
                  have q5 : (j : Int) + 1 < ((s.size + 1 : Nat) : Int) := by omega
                  have q6 : (0 : Int) ≤ (i : Int) + 1 := by omega
                  have q7 : (i : Int) + 1 < ((p.size + 1 : Nat) : Int) := by omega
                  have q8 : (j : Int) < (s.size : Int) := by omega
                  have ecc : ((p[i].toNat : Int) == (s[j].toNat : Int)) = (s[j] == p[i]) := by
                    rw [Bool.eq_iff_iff]
                    simp only [beq_iff_eq]
                    exact ⟨fun h => UInt8.toNat_inj.1 (by omega), fun h => by rw [h]⟩
                  obtain ⟨v1, hv1⟩ : ∃ v1, TF p s (i + 1) (j + 1) = v1 := ⟨_, rfl⟩
                  rw [hv1] at x1 htf
                  clear hv1
                  cases hee : (s[j] == p[i])
                  · rw [hee] at ecc htf
                    have HN := Lib.hid (HST.out.step hip hjn false (by rw [htf.out]; rfl))
                    have HB1 := Lib.hid ((HB.out.setCell (p := ⟨β i, j, none⟩) hlw (.bool false)).drew)
                    clear HST HB hlw
                    as_aux_lemma =>
                      go_upto_region 17 with fail
                      go_region
                      all_goals
                        go_wp2_with fail
                        go_roundw
                        case rel => exact ⟨(j : Int) - 1, by go_num, by omega, by omega, HN, HB1⟩
                        case measure => first | (simp [intOf]; done) | (simp [intOf]; omega)
                  · rw [hee] at ecc htf
                    have HN := Lib.hid (HST.out.step hip hjn v1 (by rw [htf.out]; rfl))
                    have HB1 := Lib.hid ((HB.out.setCell (p := ⟨β i, j, none⟩) hlw (.bool v1)).drew)
                    clear HST HB hlw
                    as_aux_lemma =>
                      go_upto_region 17 with fail
                      go_region
                      all_goals
                        go_wp2_with fail
                        go_roundw
                        case rel => exact ⟨(j : Int) - 1, by go_num, by omega, by omega, HN, HB1⟩
                        case measure => first | (simp [intOf]; done) | (simp [intOf]; omega)
                · have hje : j = s.size := by omega
                  have htf : Hid (TF p s i j = false) := by rw [Hid, hje]; exact tf_ch_end hip1 hc42
                  clear hje
                  have HN := Lib.hid (HST.out.step hip hjn false (by rw [htf.out]))
                  have HB1 := Lib.hid ((HB.out.setCell (p := ⟨β i, j, none⟩) hlw (.bool false)).drew)
                  clear HST HB hlw
                  as_aux_lemma =>
                    go_upto_region 17 with fail
                    go_region
                    all_goals
                      go_wp2_with fail
                      go_roundw
                      case rel => exact ⟨(j : Int) - 1, by go_num, by omega, by omega, HN, HB1⟩
                      case measure => first | (simp [intOf]; done) | (simp [intOf]; omega)
              · have hyy : y = -1 := by omega
                have HSD := Lib.hid (HST.out.done (by omega))
                clear HST
                subst hyy
                go_wp2_with fail
                go_roundw
                case rel => exact ⟨(i : Int) - 1, by go_num, by omega, by omega, HSD, HB⟩
                case measure => first | (simp [intOf]; done) | (simp [intOf]; omega)
          · have hc42 : p[i] = 42 := eq_of_beq h42
            rw [h42] at e42 f42
            have e42' : ((p[i].toNat : Int) == 42) = true := e42
            have f42' : ((p[i].toNat : Int) != 42) = false := f42
            clear e42 f42
            by_cases hany : ∃ h : i + 1 < p.size, p[i + 1]'h = 42
            · obtain ⟨hi1, hc2⟩ := hany
              have hpar := parse_any_at hi1 hc42 hc2
              have g42 : ((p[i + 1].toNat : Int) == 42) = true := by rw [hc2]; rfl
              have p2 : (0 : Int) ≤ (i : Int) + 1 := by omega
              have p3 : (i : Int) + 1 < (p.size : Int) := by omega
              have p4 : ((i : Int) + 1).toNat = i + 1 := by omega
              have HPA := Lib.hid hpar
              clear hpar hc2
              go_wp2_with fail
              go_loopw [9] (fun v wx => ∃ y : Int, v = .int .i64 y ∧ -1 ≤ y ∧ y ≤ s.size ∧ Hid (St wx w.heap.size g β p s i y) ∧ Hid (Below w.heap.size w wx)) (fun v _ => (intOf v + 1).toNat)
              case atStart => exact ⟨s.size, rfl, by omega, by omega, HSO.out.begin, HB⟩
              case round =>
                clear HSO HB
                obtain ⟨y, rfl, hy0, hy1, HST, HB⟩ := hrel
                by_cases hy : 0 ≤ y
                · obtain ⟨j, rfl⟩ : ∃ j : Nat, y = j := ⟨y.toNat, by omega⟩
                  have hjn : j ≤ s.size := by omega
                  have hlw := HST.out.low hip
                  have r0 := HST.out.row (a := i) hip
                  obtain ⟨v0, f0, f1⟩ := HST.out.here hip hjn
                  have q0 : (0 : Int) ≤ (j : Int) := by omega
                  have q1 : (j : Int) < ((s.size + 1 : Nat) : Int) := by omega
                  have q2 : (i : Int) < ((p.size + 1 : Nat) : Int) := by omega
                  have q3 : (0 : Int) ≤ (i : Int) := by omega
                  have r1 := HST.out.row (a := i + 2) (by omega)
                  have x1 := HST.out.at_ (a := i + 2) (b := j) (by omega) (by omega) hjn
                  have q6 : (0 : Int) ≤ (i : Int) + 2 := by omega
                  have q7 : (i : Int) + 2 < ((p.size + 1 : Nat) : Int) := by omega
                  obtain ⟨v1, hv1⟩ : ∃ v1, TF p s (i + 2) j = v1 := ⟨_, rfl⟩
                  by_cases hjs : j < s.size
                  · have x2 := HST.out.behind hip (b := j + 1) (by omega) (by omega)
                    have htf := Lib.hid (tf_many HPA.out hjs)
                    rw [hv1] at x1 htf
                    clear hv1
                    have q4 : (0 : Int) ≤ (j : Int) + 1 := by omega
                    have q5 : (j : Int) + 1 < ((s.size + 1 : Nat) : Int) := by omega
                    have q8 : (j : Int) < (s.size : Int) := by omega
                    obtain ⟨v2, hv2⟩ : ∃ v2, TF p s i (j + 1) = v2 := ⟨_, rfl⟩
                    rw [hv2] at x2 htf
                    clear hv2
                    cases v1
                    · skip
                      have HN := Lib.hid (HST.out.step hip hjn v2 (by rw [htf.out]; simp [okAll]))
                      have HB1 := Lib.hid ((HB.out.setCell (p := ⟨β i, j, none⟩) hlw (.bool v2)).drew)
                      clear HST HB hlw
                      as_aux_lemma =>
                        go_upto_region 19 with fail
                        go_region
                        all_goals
                          go_wp2_with fail
                          go_roundw
                          case rel => exact ⟨(j : Int) - 1, by go_num, by omega, by omega, HN, HB1⟩
                          case measure => first | (simp [intOf]; done) | (simp [intOf]; omega)
                    · skip
                      have HN := Lib.hid (HST.out.step hip hjn true (by rw [htf.out]; rfl))
                      have HB1 := Lib.hid ((HB.out.setCell (p := ⟨β i, j, none⟩) hlw (.bool true)).drew)
                      clear HST HB hlw
                      as_aux_lemma =>
                        go_upto_region 19 with fail
                        go_region
                        all_goals
                          go_wp2_with fail
                          go_roundw
                          case rel => exact ⟨(j : Int) - 1, by go_num, by omega, by omega, HN, HB1⟩
                          case measure => first | (simp [intOf]; done) | (simp [intOf]; omega)
                  · have hje : j = s.size := by omega
                    have htf : Hid (TF p s i j = TF p s (i + 2) j) := by rw [Hid, hje]; exact tf_many_end HPA.out
                    rw [hv1] at x1 htf
                    clear hv1 hje
                    cases v1
                    · skip
                      have HN := Lib.hid (HST.out.step hip hjn false (by rw [htf.out]))
                      have HB1 := Lib.hid ((HB.out.setCell (p := ⟨β i, j, none⟩) hlw (.bool false)).drew)
                      clear HST HB hlw
                      as_aux_lemma =>
                        go_upto_region 19 with fail
                        go_region
                        all_goals
                          go_wp2_with fail
                          go_roundw
                          case rel => exact ⟨(j : Int) - 1, by go_num, by omega, by omega, HN, HB1⟩
                          case measure => first | (simp [intOf]; done) | (simp [intOf]; omega)
                    · skip
                      have HN := Lib.hid (HST.out.step hip hjn true (by rw [htf.out]))
                      have HB1 := Lib.hid ((HB.out.setCell (p := ⟨β i, j, none⟩) hlw (.bool true)).drew)
                      clear HST HB hlw
                      as_aux_lemma =>
                        go_upto_region 19 with fail
                        go_region
                        all_goals
                          go_wp2_with fail
                          go_roundw
                          case rel => exact ⟨(j : Int) - 1, by go_num, by omega, by omega, HN, HB1⟩
                          case measure => first | (simp [intOf]; done) | (simp [intOf]; omega)
                · have hyy : y = -1 := by omega
                  have HSD := Lib.hid (HST.out.done (by omega))
                  clear HST
                  subst hyy
                  go_wp2_with fail
                  go_roundw
                  case rel => exact ⟨(i : Int) - 1, by go_num, by omega, by omega, HSD, HB⟩
                  case measure => first | (simp [intOf]; done) | (simp [intOf]; omega)
            · have hpar := parse_one_at hip1 hc42 (fun h e => hany ⟨h, e⟩)
              have HPA := Lib.hid hpar
              have HAN : Hid (i + 1 < p.size → ∀ h : i + 1 < p.size, ((p[i + 1]'h).toNat : Int) == 42 → False) := fun _ h e => hany ⟨h, UInt8.toNat_inj.1 (by show _ = 42; have := eq_of_beq e; omega)⟩
              clear hpar hany
              go_upto_region 10 with fail
              go_cut [8] from 39 to 56 (fun a wx => a = .bool false ∧ wx = wr)
              case first =>
                by_cases hi1 : i + 1 < p.size
                · have g42 : ((p[i + 1].toNat : Int) == 42) = false := by
                    cases h : ((p[i + 1].toNat : Int) == 42)
                    · rfl
                    · exact (HAN.out hi1 hi1 h).elim
                  have p2 : (0 : Int) ≤ (i : Int) + 1 := by omega
                  have p3 : (i : Int) + 1 < (p.size : Int) := by omega
                  have p4 : ((i : Int) + 1).toNat = i + 1 := by omega
                  go_wp2_with fail
                  go_meet
                  exact ⟨by first | rfl | simp [*], rfl⟩
                · have p3 : ¬ ((i : Int) + 1 < (p.size : Int)) := by omega
                  go_wp2_with fail
                  go_meet
                  exact ⟨by first | rfl | simp [*], rfl⟩
              case rest =>
                obtain ⟨rfl, rfl⟩ := hcut
                clear HAN
                go_wp2_with fail
                go_loopw [9] (fun v wx => ∃ y : Int, v = .int .i64 y ∧ -1 ≤ y ∧ y ≤ s.size ∧ Hid (St wx w.heap.size g β p s i y) ∧ Hid (Below w.heap.size w wx)) (fun v _ => (intOf v + 1).toNat)
                case atStart => exact ⟨s.size, rfl, by omega, by omega, HSO.out.begin, HB⟩
                case round =>
                  clear HSO HB
                  obtain ⟨y, rfl, hy0, hy1, HST, HB⟩ := hrel
                  by_cases hy : 0 ≤ y
                  · obtain ⟨j, rfl⟩ : ∃ j : Nat, y = j := ⟨y.toNat, by omega⟩
                    have hjn : j ≤ s.size := by omega
                    have hlw := HST.out.low hip
                    have r0 := HST.out.row (a := i) hip
                    obtain ⟨v0, f0, f1⟩ := HST.out.here hip hjn
                    have q0 : (0 : Int) ≤ (j : Int) := by omega
                    have q1 : (j : Int) < ((s.size + 1 : Nat) : Int) := by omega
                    have q2 : (i : Int) < ((p.size + 1 : Nat) : Int) := by omega
                    have q3 : (0 : Int) ≤ (i : Int) := by omega
                    have r1 := HST.out.row (a := i + 1) (by omega)
                    have x1 := HST.out.at_ (a := i + 1) (b := j) (by omega) (by omega) hjn
                    have q6 : (0 : Int) ≤ (i : Int) + 1 := by omega
                    have q7 : (i : Int) + 1 < ((p.size + 1 : Nat) : Int) := by omega
                    obtain ⟨v1, hv1⟩ : ∃ v1, TF p s (i + 1) j = v1 := ⟨_, rfl⟩
                    by_cases hjs : j < s.size
                    · have x2 := HST.out.behind hip (b := j + 1) (by omega) (by omega)
                      have htf := Lib.hid (tf_many HPA.out hjs)
                      rw [hv1] at x1 htf
                      clear hv1
                      have q4 : (0 : Int) ≤ (j : Int) + 1 := by omega
                      have q5 : (j : Int) + 1 < ((s.size + 1 : Nat) : Int) := by omega
                      have q8 : (j : Int) < (s.size : Int) := by omega
                      obtain ⟨v2, hv2⟩ : ∃ v2, TF p s i (j + 1) = v2 := ⟨_, rfl⟩
                      rw [hv2] at x2 htf
                      clear hv2
                      have hok : okIn s[j] = (decide (s[j].toNat ≠ 47) && decide (s[j].toNat ≠ 58)) := rfl
                      rw [hok] at htf
                      obtain ⟨c, hcc⟩ : ∃ c, s[j].toNat = c := ⟨_, rfl⟩
                      rw [hcc] at htf
                      clear hok
                      cases v1
                      · by_cases h47 : c = 47
                        · have d1 : ((c : Int) != 47) = false := by rw [h47]; rfl
                          have HN := Lib.hid (HST.out.step hip hjn false (by rw [htf.out]; simp [h47]))
                          have HB1 := Lib.hid ((HB.out.setCell (p := ⟨β i, j, none⟩) hlw (.bool false)).drew)
                          clear HST HB hlw
                          as_aux_lemma =>
                            go_upto_region 15 with fail
                            go_region
                            all_goals
                              go_wp2_with fail
                              go_roundw
                              case rel => exact ⟨(j : Int) - 1, by go_num, by omega, by omega, HN, HB1⟩
                              case measure => first | (simp [intOf]; done) | (simp [intOf]; omega)
                        · have d1 : ((c : Int) != 47) = true := bne_iff_ne.2 (by omega)
                          by_cases h58 : c = 58
                          · have d2 : ((c : Int) != 58) = false := by rw [h58]; rfl
                            have HN := Lib.hid (HST.out.step hip hjn false (by rw [htf.out]; simp [h58]))
                            have HB1 := Lib.hid ((HB.out.setCell (p := ⟨β i, j, none⟩) hlw (.bool false)).drew)
                            clear HST HB hlw
                            as_aux_lemma =>
                              go_upto_region 15 with fail
                              go_region
                              all_goals
                                go_wp2_with fail
                                go_roundw
                                case rel => exact ⟨(j : Int) - 1, by go_num, by omega, by omega, HN, HB1⟩
                                case measure => first | (simp [intOf]; done) | (simp [intOf]; omega)
                          · have d2 : ((c : Int) != 58) = true := bne_iff_ne.2 (by omega)
                            have HN := Lib.hid (HST.out.step hip hjn v2 (by rw [htf.out]; simp [h47, h58]))
                            have HB1 := Lib.hid ((HB.out.setCell (p := ⟨β i, j, none⟩) hlw (.bool v2)).drew)
                            clear HST HB hlw
                            as_aux_lemma =>
                              go_upto_region 15 with fail
                              go_region
                              all_goals
                                go_wp2_with fail
                                go_roundw
                                case rel => exact ⟨(j : Int) - 1, by go_num, by omega, by omega, HN, HB1⟩
                                case measure => first | (simp [intOf]; done) | (simp [intOf]; omega)
                      · skip
                        have HN := Lib.hid (HST.out.step hip hjn true (by rw [htf.out]; rfl))
                        have HB1 := Lib.hid ((HB.out.setCell (p := ⟨β i, j, none⟩) hlw (.bool true)).drew)
                        clear HST HB hlw
                        as_aux_lemma =>
                          go_upto_region 15 with fail
                          go_region
                          all_goals
                            go_wp2_with fail
                            go_roundw
                            case rel => exact ⟨(j : Int) - 1, by go_num, by omega, by omega, HN, HB1⟩
                            case measure => first | (simp [intOf]; done) | (simp [intOf]; omega)
                    · have hje : j = s.size := by omega
                      have htf : Hid (TF p s i j = TF p s (i + 1) j) := by rw [Hid, hje]; exact tf_many_end HPA.out
                      rw [hv1] at x1 htf
                      clear hv1 hje
                      cases v1
                      · skip
                        have HN := Lib.hid (HST.out.step hip hjn false (by rw [htf.out]))
                        have HB1 := Lib.hid ((HB.out.setCell (p := ⟨β i, j, none⟩) hlw (.bool false)).drew)
                        clear HST HB hlw
                        as_aux_lemma =>
                          go_upto_region 15 with fail
                          go_region
                          all_goals
                            go_wp2_with fail
                            go_roundw
                            case rel => exact ⟨(j : Int) - 1, by go_num, by omega, by omega, HN, HB1⟩
                            case measure => first | (simp [intOf]; done) | (simp [intOf]; omega)
                      · skip
                        have HN := Lib.hid (HST.out.step hip hjn true (by rw [htf.out]))
                        have HB1 := Lib.hid ((HB.out.setCell (p := ⟨β i, j, none⟩) hlw (.bool true)).drew)
                        clear HST HB hlw
                        as_aux_lemma =>
                          go_upto_region 15 with fail
                          go_region
                          all_goals
                            go_wp2_with fail
                            go_roundw
                            case rel => exact ⟨(j : Int) - 1, by go_num, by omega, by omega, HN, HB1⟩
                            case measure => first | (simp [intOf]; done) | (simp [intOf]; omega)
                  · have hyy : y = -1 := by omega
                    have HSD := Lib.hid (HST.out.done (by omega))
                    clear HST
                    subst hyy
                    go_wp2_with fail
                    go_roundw
                    case rel => exact ⟨(i : Int) - 1, by go_num, by omega, by omega, HSD, HB⟩
                    case measure => first | (simp [intOf]; done) | (simp [intOf]; omega)
        · obtain rfl : z = -1 := by omega
          obtain ⟨F, hT, hF⟩ := HSO.out
          have hm1 : wr.cell? ⟨g, 0, none⟩ = some (.slice (some ⟨β 0, 0, none⟩) (s.size + 1) (s.size + 1)) := hT.cell 0 (by omega)
          have c1 : wr.cell? ⟨β 0, 0, none⟩ = some (.bool (TF p s 0 0)) := by
            rw [((hT.rows.blk 0 (by omega)) 0 (Nat.zero_le _)).1, hF 0 0 (by omega) (Nat.zero_le _) (Nat.zero_le _)]
          have n1 : (0 : Int) < ((p.size + 1 : Nat) : Int) := by omega
          have n2 : (0 : Int) < ((s.size + 1 : Nat) : Int) := by omega
          clear HSO hT hF
          go_wp2_with fail
          go_ret
          exact ⟨rfl, HB.out⟩
end Go.Proofs.YtlkadlhncbgdbaaDoor
